/- The walks: what each function that the laws reach computes (part 1). -/
import Derived.Test.YtjlocpdfcanlhaaGreatA1
import Derived.Test.YtjlocpdfcanlhaaGreatA3
import Derived.Test.YtjlocpdfcanlhaaGreatA4
import Derived.Test.YtjlocpdfcanlhaaGreatProg
import Derived.KernelRfl
namespace Go.Proofs.YtjlocpdfcanlhaaGreat
open Go
set_option linter.unusedVariables false
set_option linter.unusedSimpArgs false
set_option maxRecDepth 100000
set_option maxHeartbeats 2000000
theorem HL (w0:World) (a:List Int) (pa:aD Int) (ay:GT.rd jW (fc w0.heap.size) w0 a pa) (left:Int) (fC:-1<=left) (gU:left<=4194304):Calls Tryz.prog 98 [R a.length pa.1,aa left].toArray w0 (fun e w'=>e= .returned (aa (ch (aS.aW a) left))/\bB ab w0 w'):=by
 refine Calls.run ab Tryz.func98 ?_
 intro ac β S
 have ej:=Wc a
 have py:=gQ (aS.aW a) left
 have fG:a.length<=9223372036854775807:=ae.le ay
 refine S.aI 21 (.cons (hf left (a.length:Int)) .nil) (decide ((left-(a.length:Int))<0)) (fun ac w β h1 a8 S=>?_) (fun ac w β h1 a8 S=>?_)
 ·exact S.aq 7 .nil [aa (-1)] (b4 (by clear S;omega))
 exact S.aq 10 .nil [aa (left-(a.length:Int))] (b4 (by clear S;omega))
theorem KU {p:Prop} (h:p:=by clear S;(first|omega|(have pw:=Gv (xs:=a) (k:=k) (by omega);omega)|(have Ki:=j7 (xs:=a) (k:=k) (by omega);have we:=hM a (k+1);omega))):p:=h
theorem PY (w0:World) (a:List (List Int)) (pa:aD (List Int)) (ay:GT.rd jW (fc w0.heap.size) w0 a pa) (left:Int) (fC:-1<=left) (gU:left<=4194304):Calls Tryz.prog 25 [R a.length pa.1,aa left].toArray w0 (fun e w'=>e= .returned (aa (ch (aS.aW a) left))/\bB ab w0 w'):=by
 refine Calls.run ab Tryz.func25 ?_
 intro ac β S
 have ej:=nD a
 have py:=gQ (aS.aW a) left
 have fG:a.length<=9223372036854775807:=ae.le ay
 refine S.aI 21 (.cons (hf left (a.length:Int)) .nil) (decide ((left-(a.length:Int))<0)) (fun ac w β h1 a8 S=>?_) (fun ac w β h1 a8 S=>?_)
 ·exact S.aq 7 .nil [aa (-1)] (b4 KU)
 refine S.go 10 .nil fun ac w β S=>?_
 refine c8 (fun a4 ac w=>∃(k:Nat) (l:Int) (u:_) (N:_) (β:_),a4=a.length-k/\(k<=a.length)/\(l=left-a.length-hg (a.take k))/\(0<=l)/\aj Tryz.prog Tryz.f25.ntmps w0 ab u N β ⟨[(0,.v (R a.length pa.1)),(1,.v (aa l)),(5,.v (aa (k:Int)))],[]⟩ ac w) _ ⟨0,(left-(a.length:Int)),_,_,_,rfl,cw,(by simp [uw]),cw,S.z⟩ ?_
 clear S
 rintro f3 a4 iC ac w ⟨k,l,u,N,β,rfl,hk,hl,JU,S⟩
 refine S.rs fun S=>?_
 have JW:=hM a k
 refine S.aI 9 .nil (decide ((k:Int)<(a.length:Int))) (fun ac w β bm c6 S=>?_) (fun ac w β bm c6 S=>?_)
 ·have s_:=gQ (aS.aW (el a k)) l
  refine S.aI 22 (.cons (b5 (S.arg ay) k Tryz.underlying22) (.cons (cj (S.arg ay) 38 k) (.cons (aE fun w hw=>HL w (el a k) (pa.2 k) (bJ (ae.el (S.arg ay) k (by omega)) hw) l (by omega) (by omega)) .nil))) (decide ((ch (aS.aW (el a k)) l)<0)) (fun ac w β dc fF S=>?_) (fun ac w β dc fF S=>?_)
  ·exact S.aq 7 .nil [aa (-1)] (b4 KU)
  refine S.ge 9 (.cons (cc (k:Int) 1) .nil) f3 fun ac w β S=>iC.of (a.length-(k+1)) _ _ (by omega) ⟨k+1,(ch (aS.aW (el a k)) l),_,_,_,rfl,?_,?_,?_,S.z⟩
  ·exact cK
  ·clear S;(rw [j7 (by omega)];omega)
  ·clear S;omega
 exact S.aq 13 .nil [aa l] (b4 KU)
theorem DJ (w0:World) (a:List aR) (pa:aD aR) (ay:GT.rd jW (fc w0.heap.size) w0 a pa) (left:Int) (fC:-1<=left) (gU:left<=4194304):Calls Tryz.prog 213 [R a.length pa.1,aa left].toArray w0 (fun e w'=>e= .returned (aa (ch (aS.aW a) left))/\bB ab w0 w'):=by
 refine Calls.run ab Tryz.func213 ?_
 intro ac β S
 have ej:=Wf a
 have py:=gQ (aS.aW a) left
 have fG:a.length<=9223372036854775807:=ae.le ay
 refine S.aI 21 (.cons (hf left (a.length:Int)) .nil) (decide ((left-(a.length:Int))<0)) (fun ac w β h1 a8 S=>?_) (fun ac w β h1 a8 S=>?_)
 ·exact S.aq 7 .nil [aa (-1)] (b4 (by clear S;omega))
 exact S.aq 10 .nil [aa (left-(a.length:Int))] (b4 (by clear S;omega))
theorem PW (w0:World) (a:List Bool) (pa:aD Bool) (ay:GT.rd jW (fc w0.heap.size) w0 a pa) (left:Int) (fC:-1<=left) (gU:left<=4194304):Calls Tryz.prog 214 [R a.length pa.1,aa left].toArray w0 (fun e w'=>e= .returned (aa (ch (aS.aW a) left))/\bB ab w0 w'):=by
 refine Calls.run ab Tryz.func214 ?_
 intro ac β S
 have ej:=Wb a
 have py:=gQ (aS.aW a) left
 have fG:a.length<=9223372036854775807:=ae.le ay
 refine S.aI 21 (.cons (hf left (a.length:Int)) .nil) (decide ((left-(a.length:Int))<0)) (fun ac w β h1 a8 S=>?_) (fun ac w β h1 a8 S=>?_)
 ·exact S.aq 7 .nil [aa (-1)] (b4 (by clear S;omega))
 exact S.aq 10 .nil [aa (left-(a.length:Int))] (b4 (by clear S;omega))
theorem Zw (w0:World) (a:List da) (pa:aD da) (ay:GT.rd jW (fc w0.heap.size) w0 a pa) (left:Int) (fC:-1<=left) (gU:left<=4194304):Calls Tryz.prog 332 [R a.length pa.1,aa left].toArray w0 (fun e w'=>e= .returned (aa (ch (aS.aW a) left))/\bB ab w0 w'):=by
 refine Calls.run ab Tryz.func332 ?_
 intro ac β S
 have ej:=We a
 have py:=gQ (aS.aW a) left
 have fG:a.length<=9223372036854775807:=ae.le ay
 refine S.aI 21 (.cons (hf left (a.length:Int)) .nil) (decide ((left-(a.length:Int))<0)) (fun ac w β h1 a8 S=>?_) (fun ac w β h1 a8 S=>?_)
 ·exact S.aq 7 .nil [aa (-1)] (b4 (by clear S;omega))
 exact S.aq 10 .nil [aa (left-(a.length:Int))] (b4 (by clear S;omega))
theorem Zt (w0:World) (a:ax) (pa:c5) (ay:GT.rd jW (fc w0.heap.size) w0 a pa) (left:Int) (fC:-1<=left) (gU:left<=4194304):Calls Tryz.prog 299 [GT.val a pa,aa left].toArray w0 (fun e w'=>e= .returned (aa (ch (aS.aW a) left))/\bB ab w0 w'):=by
 refine Calls.run ab Tryz.func299 ?_
 intro ac β S
 have ej:=zo a
 have py:=gQ (aS.aW a) left
 have hP:=gQ (aS.aW a.prog) left
 refine S.aI 22 (.cons (aE fun w hw=>Zw w a.prog pa.prog (bJ (az.prog (d:=a) (S.arg ay)) hw) left (by omega) (by omega)) .nil) (decide ((ch (aS.aW a.prog) left)<0)) (fun ac w β an b7 S=>?_) (fun ac w β an b7 S=>?_)
 ·exact S.aq 7 .nil [aa (-1)] (b4 (by clear S;omega))
 have pb:=gQ (aS.aW a.written) (ch (aS.aW a.prog) left)
 refine S.aI 19 (.cons (aE fun w hw=>DJ w a.written pa.written (bJ (az.written (d:=a) (S.arg ay)) hw) (ch (aS.aW a.prog) left) (by omega) (by omega)) .nil) (decide ((ch (aS.aW a.written) (ch (aS.aW a.prog) left))<0)) (fun ac w β bm c6 S=>?_) (fun ac w β bm c6 S=>?_)
 ·exact S.aq 7 .nil [aa (-1)] (b4 (by clear S;omega))
 have s_:=gQ (aS.aW a.live) (ch (aS.aW a.written) (ch (aS.aW a.prog) left))
 refine S.aI 19 (.cons (aE fun w hw=>DJ w a.live pa.live (bJ (az.live (d:=a) (S.arg ay)) hw) (ch (aS.aW a.written) (ch (aS.aW a.prog) left)) (by omega) (by omega)) .nil) (decide ((ch (aS.aW a.live) (ch (aS.aW a.written) (ch (aS.aW a.prog) left)))<0)) (fun ac w β dc fF S=>?_) (fun ac w β dc fF S=>?_)
 ·exact S.aq 7 .nil [aa (-1)] (b4 (by clear S;omega))
 have Dn:=gQ (aS.aW a.seen) (ch (aS.aW a.live) (ch (aS.aW a.written) (ch (aS.aW a.prog) left)))
 refine S.aI 19 (.cons (aE fun w hw=>HL w a.seen pa.seen (bJ (az.seen (d:=a) (S.arg ay)) hw) (ch (aS.aW a.live) (ch (aS.aW a.written) (ch (aS.aW a.prog) left))) (by omega) (by omega)) .nil) (decide ((ch (aS.aW a.seen) (ch (aS.aW a.live) (ch (aS.aW a.written) (ch (aS.aW a.prog) left))))<0)) (fun ac w β eS ie S=>?_) (fun ac w β eS ie S=>?_)
 ·exact S.aq 7 .nil [aa (-1)] (b4 (by clear S;omega))
 exact S.aq 10 .nil [aa (ch (aS.aW a.seen) (ch (aS.aW a.live) (ch (aS.aW a.written) (ch (aS.aW a.prog) left))))] (b4 (by clear S;omega))
theorem KT {p:Prop} (h:p:=by clear S;(first|omega|(have pw:=Gv (xs:=a) (k:=k) (by omega);omega)|(have Ki:=j7 (xs:=a) (k:=k) (by omega);have we:=hM a (k+1);omega))):p:=h
theorem Zu (w0:World) (a:List ax) (pa:aD ax) (ay:GT.rd jW (fc w0.heap.size) w0 a pa) (left:Int) (fC:-1<=left) (gU:left<=4194304):Calls Tryz.prog 215 [R a.length pa.1,aa left].toArray w0 (fun e w'=>e= .returned (aa (ch (aS.aW a) left))/\bB ab w0 w'):=by
 refine Calls.run ab Tryz.func215 ?_
 intro ac β S
 have ej:=nD a
 have py:=gQ (aS.aW a) left
 have fG:a.length<=9223372036854775807:=ae.le ay
 refine S.aI 21 (.cons (hf left (a.length:Int)) .nil) (decide ((left-(a.length:Int))<0)) (fun ac w β h1 a8 S=>?_) (fun ac w β h1 a8 S=>?_)
 ·exact S.aq 7 .nil [aa (-1)] (b4 KT)
 refine S.go 10 .nil fun ac w β S=>?_
 refine c8 (fun a4 ac w=>∃(k:Nat) (l:Int) (u:_) (N:_) (β:_),a4=a.length-k/\(k<=a.length)/\(l=left-a.length-hg (a.take k))/\(0<=l)/\aj Tryz.prog Tryz.f215.ntmps w0 ab u N β ⟨[(0,.v (R a.length pa.1)),(1,.v (aa l)),(5,.v (aa (k:Int)))],[]⟩ ac w) _ ⟨0,(left-(a.length:Int)),_,_,_,rfl,cw,(by simp [uw]),cw,S.z⟩ ?_
 clear S
 rintro f3 a4 iC ac w ⟨k,l,u,N,β,rfl,hk,hl,JU,S⟩
 refine S.rs fun S=>?_
 have JW:=hM a k
 refine S.aI 9 .nil (decide ((k:Int)<(a.length:Int))) (fun ac w β bm c6 S=>?_) (fun ac w β bm c6 S=>?_)
 ·have s_:=gQ (aS.aW (el a k)) l
  refine S.aI 22 (.cons (b5 (S.arg ay) k Tryz.underlying120) (.cons (dz (S.arg ay) 233 k) (.cons (aE fun w hw=>Zt w (el a k) (pa.2 k) (bJ (ae.el (S.arg ay) k (by omega)) hw) l (by omega) (by omega)) .nil))) (decide ((ch (aS.aW (el a k)) l)<0)) (fun ac w β dc fF S=>?_) (fun ac w β dc fF S=>?_)
  ·exact S.aq 7 .nil [aa (-1)] (b4 KT)
  refine S.ge 9 (.cons (cc (k:Int) 1) .nil) f3 fun ac w β S=>iC.of (a.length-(k+1)) _ _ (by omega) ⟨k+1,(ch (aS.aW (el a k)) l),_,_,_,rfl,?_,?_,?_,S.z⟩
  ·exact cK
  ·clear S;(rw [j7 (by omega)];omega)
  ·clear S;omega
 exact S.aq 13 .nil [aa l] (b4 KT)
theorem Zx (w0:World) (a:bS) (pa:fx) (ay:GT.rd jW (fc w0.heap.size) w0 a pa) (left:Int) (fC:-1<=left) (gU:left<=4194304):Calls Tryz.prog 300 [GT.val a pa,aa left].toArray w0 (fun e w'=>e= .returned (aa (ch (aS.aW a) left))/\bB ab w0 w'):=by
 refine Calls.run ab Tryz.func300 ?_
 intro ac β S
 have ej:=Gu a
 have py:=gQ (aS.aW a) left
 have hP:=gQ (aS.aW a.known) left
 refine S.aI 22 (.cons (aE fun w hw=>PW w a.known pa.known (bJ (ey.known (d:=a) (S.arg ay)) hw) left (by omega) (by omega)) .nil) (decide ((ch (aS.aW a.known) left)<0)) (fun ac w β an b7 S=>?_) (fun ac w β an b7 S=>?_)
 ·exact S.aq 7 .nil [aa (-1)] (b4 (by clear S;omega))
 have pb:=gQ (aS.aW a.aZ) (ch (aS.aW a.known) left)
 refine S.aI 19 (.cons (aE fun w hw=>DJ w a.aZ pa.aZ (bJ (ey.aZ (d:=a) (S.arg ay)) hw) (ch (aS.aW a.known) left) (by omega) (by omega)) .nil) (decide ((ch (aS.aW a.aZ) (ch (aS.aW a.known) left))<0)) (fun ac w β bm c6 S=>?_) (fun ac w β bm c6 S=>?_)
 ·exact S.aq 7 .nil [aa (-1)] (b4 (by clear S;omega))
 exact S.aq 10 .nil [aa (ch (aS.aW a.aZ) (ch (aS.aW a.known) left))] (b4 (by clear S;omega))
theorem KV {p:Prop} (h:p:=by clear S;(first|omega|(have pw:=Gv (xs:=a) (k:=k) (by omega);omega)|(have Ki:=j7 (xs:=a) (k:=k) (by omega);have we:=hM a (k+1);omega))):p:=h
theorem Zy (w0:World) (a:List bS) (pa:aD bS) (ay:GT.rd jW (fc w0.heap.size) w0 a pa) (left:Int) (fC:-1<=left) (gU:left<=4194304):Calls Tryz.prog 216 [R a.length pa.1,aa left].toArray w0 (fun e w'=>e= .returned (aa (ch (aS.aW a) left))/\bB ab w0 w'):=by
 refine Calls.run ab Tryz.func216 ?_
 intro ac β S
 have ej:=nD a
 have py:=gQ (aS.aW a) left
 have fG:a.length<=9223372036854775807:=ae.le ay
 refine S.aI 21 (.cons (hf left (a.length:Int)) .nil) (decide ((left-(a.length:Int))<0)) (fun ac w β h1 a8 S=>?_) (fun ac w β h1 a8 S=>?_)
 ·exact S.aq 7 .nil [aa (-1)] (b4 KV)
 refine S.go 10 .nil fun ac w β S=>?_
 refine c8 (fun a4 ac w=>∃(k:Nat) (l:Int) (u:_) (N:_) (β:_),a4=a.length-k/\(k<=a.length)/\(l=left-a.length-hg (a.take k))/\(0<=l)/\aj Tryz.prog Tryz.f216.ntmps w0 ab u N β ⟨[(0,.v (R a.length pa.1)),(1,.v (aa l)),(5,.v (aa (k:Int)))],[]⟩ ac w) _ ⟨0,(left-(a.length:Int)),_,_,_,rfl,cw,(by simp [uw]),cw,S.z⟩ ?_
 clear S
 rintro f3 a4 iC ac w ⟨k,l,u,N,β,rfl,hk,hl,JU,S⟩
 refine S.rs fun S=>?_
 have JW:=hM a k
 refine S.aI 9 .nil (decide ((k:Int)<(a.length:Int))) (fun ac w β bm c6 S=>?_) (fun ac w β bm c6 S=>?_)
 ·have s_:=gQ (aS.aW (el a k)) l
  refine S.aI 22 (.cons (b5 (S.arg ay) k Tryz.underlying121) (.cons (dz (S.arg ay) 236 k) (.cons (aE fun w hw=>Zx w (el a k) (pa.2 k) (bJ (ae.el (S.arg ay) k (by omega)) hw) l (by omega) (by omega)) .nil))) (decide ((ch (aS.aW (el a k)) l)<0)) (fun ac w β dc fF S=>?_) (fun ac w β dc fF S=>?_)
  ·exact S.aq 7 .nil [aa (-1)] (b4 KV)
  refine S.ge 9 (.cons (cc (k:Int) 1) .nil) f3 fun ac w β S=>iC.of (a.length-(k+1)) _ _ (by omega) ⟨k+1,(ch (aS.aW (el a k)) l),_,_,_,rfl,?_,?_,?_,S.z⟩
  ·exact cK
  ·clear S;(rw [j7 (by omega)];omega)
  ·clear S;omega
 exact S.aq 13 .nil [aa l] (b4 KV)
theorem Zz (w0:World) (a:aO) (pa:ft) (ay:GT.rd jW (fc w0.heap.size) w0 a pa) (left:Int) (fC:-1<=left) (gU:left<=4194304):Calls Tryz.prog 99 [GT.val a pa,aa left].toArray w0 (fun e w'=>e= .returned (aa (ch (aS.aW a) left))/\bB ab w0 w'):=by
 refine Calls.run ab Tryz.func99 ?_
 intro ac β S
 have ej:=uv a
 have py:=gQ (aS.aW a) left
 have hP:=gQ (aS.aW a.outer) left
 refine S.aI 22 (.cons (aE fun w hw=>DJ w a.outer pa.outer (bJ (aU.outer (d:=a) (S.arg ay)) hw) left (by omega) (by omega)) .nil) (decide ((ch (aS.aW a.outer) left)<0)) (fun ac w β an b7 S=>?_) (fun ac w β an b7 S=>?_)
 ·exact S.aq 7 .nil [aa (-1)] (b4 (by clear S;omega))
 have pb:=gQ (aS.aW a.out) (ch (aS.aW a.outer) left)
 refine S.aI 19 (.cons (aE fun w hw=>PY w a.out pa.out (bJ (aU.out (d:=a) (S.arg ay)) hw) (ch (aS.aW a.outer) left) (by omega) (by omega)) .nil) (decide ((ch (aS.aW a.out) (ch (aS.aW a.outer) left))<0)) (fun ac w β bm c6 S=>?_) (fun ac w β bm c6 S=>?_)
 ·exact S.aq 7 .nil [aa (-1)] (b4 (by clear S;omega))
 have s_:=gQ (aS.aW a.aT) (ch (aS.aW a.out) (ch (aS.aW a.outer) left))
 refine S.aI 19 (.cons (aE fun w hw=>PW w a.aT pa.aT (bJ (aU.aT (d:=a) (S.arg ay)) hw) (ch (aS.aW a.out) (ch (aS.aW a.outer) left)) (by omega) (by omega)) .nil) (decide ((ch (aS.aW a.aT) (ch (aS.aW a.out) (ch (aS.aW a.outer) left)))<0)) (fun ac w β dc fF S=>?_) (fun ac w β dc fF S=>?_)
 ·exact S.aq 7 .nil [aa (-1)] (b4 (by clear S;omega))
 have Dn:=gQ (aS.aW a.U) (ch (aS.aW a.aT) (ch (aS.aW a.out) (ch (aS.aW a.outer) left)))
 refine S.aI 19 (.cons (aE fun w hw=>Zu w a.U pa.U (bJ (aU.U (d:=a) (S.arg ay)) hw) (ch (aS.aW a.aT) (ch (aS.aW a.out) (ch (aS.aW a.outer) left))) (by omega) (by omega)) .nil) (decide ((ch (aS.aW a.U) (ch (aS.aW a.aT) (ch (aS.aW a.out) (ch (aS.aW a.outer) left))))<0)) (fun ac w β eS ie S=>?_) (fun ac w β eS ie S=>?_)
 ·exact S.aq 7 .nil [aa (-1)] (b4 (by clear S;omega))
 have amy:=gQ (aS.aW a.outs) (ch (aS.aW a.U) (ch (aS.aW a.aT) (ch (aS.aW a.out) (ch (aS.aW a.outer) left))))
 refine S.aI 19 (.cons (aE fun w hw=>HL w a.outs pa.outs (bJ (aU.outs (d:=a) (S.arg ay)) hw) (ch (aS.aW a.U) (ch (aS.aW a.aT) (ch (aS.aW a.out) (ch (aS.aW a.outer) left)))) (by omega) (by omega)) .nil) (decide ((ch (aS.aW a.outs) (ch (aS.aW a.U) (ch (aS.aW a.aT) (ch (aS.aW a.out) (ch (aS.aW a.outer) left)))))<0)) (fun ac w β ig lP S=>?_) (fun ac w β ig lP S=>?_)
 ·exact S.aq 7 .nil [aa (-1)] (b4 (by clear S;omega))
 have amC:=gQ (aS.aW a.tables) (ch (aS.aW a.outs) (ch (aS.aW a.U) (ch (aS.aW a.aT) (ch (aS.aW a.out) (ch (aS.aW a.outer) left)))))
 refine S.aI 19 (.cons (aE fun w hw=>Zy w a.tables pa.tables (bJ (aU.tables (d:=a) (S.arg ay)) hw) (ch (aS.aW a.outs) (ch (aS.aW a.U) (ch (aS.aW a.aT) (ch (aS.aW a.out) (ch (aS.aW a.outer) left))))) (by omega) (by omega)) .nil) (decide ((ch (aS.aW a.tables) (ch (aS.aW a.outs) (ch (aS.aW a.U) (ch (aS.aW a.aT) (ch (aS.aW a.out) (ch (aS.aW a.outer) left))))))<0)) (fun ac w β jH po S=>?_) (fun ac w β jH po S=>?_)
 ·exact S.aq 7 .nil [aa (-1)] (b4 (by clear S;omega))
 exact S.aq 10 .nil [aa (ch (aS.aW a.tables) (ch (aS.aW a.outs) (ch (aS.aW a.U) (ch (aS.aW a.aT) (ch (aS.aW a.out) (ch (aS.aW a.outer) left))))))] (b4 (by clear S;omega))
theorem KW {p:Prop} (h:p:=by clear S;(first|omega|(have pw:=Gv (xs:=a) (k:=k) (by omega);omega)|(have Ki:=j7 (xs:=a) (k:=k) (by omega);have we:=hM a (k+1);omega))):p:=h
theorem ZA (w0:World) (a:List aO) (pa:aD aO) (ay:GT.rd jW (fc w0.heap.size) w0 a pa) (left:Int) (fC:-1<=left) (gU:left<=4194304):Calls Tryz.prog 26 [R a.length pa.1,aa left].toArray w0 (fun e w'=>e= .returned (aa (ch (aS.aW a) left))/\bB ab w0 w'):=by
 refine Calls.run ab Tryz.func26 ?_
 intro ac β S
 have ej:=nD a
 have py:=gQ (aS.aW a) left
 have fG:a.length<=9223372036854775807:=ae.le ay
 refine S.aI 21 (.cons (hf left (a.length:Int)) .nil) (decide ((left-(a.length:Int))<0)) (fun ac w β h1 a8 S=>?_) (fun ac w β h1 a8 S=>?_)
 ·exact S.aq 7 .nil [aa (-1)] (b4 KW)
 refine S.go 10 .nil fun ac w β S=>?_
 refine c8 (fun a4 ac w=>∃(k:Nat) (l:Int) (u:_) (N:_) (β:_),a4=a.length-k/\(k<=a.length)/\(l=left-a.length-hg (a.take k))/\(0<=l)/\aj Tryz.prog Tryz.f26.ntmps w0 ab u N β ⟨[(0,.v (R a.length pa.1)),(1,.v (aa l)),(5,.v (aa (k:Int)))],[]⟩ ac w) _ ⟨0,(left-(a.length:Int)),_,_,_,rfl,cw,(by simp [uw]),cw,S.z⟩ ?_
 clear S
 rintro f3 a4 iC ac w ⟨k,l,u,N,β,rfl,hk,hl,JU,S⟩
 refine S.rs fun S=>?_
 have JW:=hM a k
 refine S.aI 9 .nil (decide ((k:Int)<(a.length:Int))) (fun ac w β bm c6 S=>?_) (fun ac w β bm c6 S=>?_)
 ·have s_:=gQ (aS.aW (el a k)) l
  refine S.aI 22 (.cons (b5 (S.arg ay) k Tryz.underlying23) (.cons (dz (S.arg ay) 123 k) (.cons (aE fun w hw=>Zz w (el a k) (pa.2 k) (bJ (ae.el (S.arg ay) k (by omega)) hw) l (by omega) (by omega)) .nil))) (decide ((ch (aS.aW (el a k)) l)<0)) (fun ac w β dc fF S=>?_) (fun ac w β dc fF S=>?_)
  ·exact S.aq 7 .nil [aa (-1)] (b4 KW)
  refine S.ge 9 (.cons (cc (k:Int) 1) .nil) f3 fun ac w β S=>iC.of (a.length-(k+1)) _ _ (by omega) ⟨k+1,(ch (aS.aW (el a k)) l),_,_,_,rfl,?_,?_,?_,S.z⟩
  ·exact cK
  ·clear S;(rw [j7 (by omega)];omega)
  ·clear S;omega
 exact S.aq 13 .nil [aa l] (b4 KW)
theorem PX (w0:World) (a:List aH) (pa:aD aH) (ay:GT.rd jW (fc w0.heap.size) w0 a pa) (left:Int) (fC:-1<=left) (gU:left<=4194304):Calls Tryz.prog 27 [R a.length pa.1,aa left].toArray w0 (fun e w'=>e= .returned (aa (ch (aS.aW a) left))/\bB ab w0 w'):=by
 refine Calls.run ab Tryz.func27 ?_
 intro ac β S
 have ej:=Wd a
 have py:=gQ (aS.aW a) left
 have fG:a.length<=9223372036854775807:=ae.le ay
 refine S.aI 21 (.cons (hf left (a.length:Int)) .nil) (decide ((left-(a.length:Int))<0)) (fun ac w β h1 a8 S=>?_) (fun ac w β h1 a8 S=>?_)
 ·exact S.aq 7 .nil [aa (-1)] (b4 (by clear S;omega))
 exact S.aq 10 .nil [aa (left-(a.length:Int))] (b4 (by clear S;omega))
theorem Zv (w0:World) (a:ah) (pa:b_) (ay:GT.rd jW (fc w0.heap.size) w0 a pa) (left:Int) (fC:-1<=left) (gU:left<=4194304):Calls Tryz.prog 6 [GT.val a pa,aa left].toArray w0 (fun e w'=>e= .returned (aa (ch (aS.aW a) left))/\bB ab w0 w'):=by
 refine Calls.run ab Tryz.func6 ?_
 intro ac β S
 have ej:=CR a
 have py:=gQ (aS.aW a) left
 have hP:=gQ (aS.aW a.mem) left
 refine S.aI 22 (.cons (aE fun w hw=>PY w a.mem pa.mem (bJ (bu.mem (d:=a) (S.arg ay)) hw) left (by omega) (by omega)) .nil) (decide ((ch (aS.aW a.mem) left)<0)) (fun ac w β an b7 S=>?_) (fun ac w β an b7 S=>?_)
 ·exact S.aq 7 .nil [aa (-1)] (b4 (by clear S;omega))
 have pb:=gQ (aS.aW a.I) (ch (aS.aW a.mem) left)
 refine S.aI 19 (.cons (aE fun w hw=>ZA w a.I pa.I (bJ (bu.I (d:=a) (S.arg ay)) hw) (ch (aS.aW a.mem) left) (by omega) (by omega)) .nil) (decide ((ch (aS.aW a.I) (ch (aS.aW a.mem) left))<0)) (fun ac w β bm c6 S=>?_) (fun ac w β bm c6 S=>?_)
 ·exact S.aq 7 .nil [aa (-1)] (b4 (by clear S;omega))
 have s_:=gQ (aS.aW a.buf) (ch (aS.aW a.I) (ch (aS.aW a.mem) left))
 refine S.aI 19 (.cons (aE fun w hw=>PX w a.buf pa.buf (bJ (bu.buf (d:=a) (S.arg ay)) hw) (ch (aS.aW a.I) (ch (aS.aW a.mem) left)) (by omega) (by omega)) .nil) (decide ((ch (aS.aW a.buf) (ch (aS.aW a.I) (ch (aS.aW a.mem) left)))<0)) (fun ac w β dc fF S=>?_) (fun ac w β dc fF S=>?_)
 ·exact S.aq 7 .nil [aa (-1)] (b4 (by clear S;omega))
 have Dn:=gQ (aS.aW a.ag) (ch (aS.aW a.buf) (ch (aS.aW a.I) (ch (aS.aW a.mem) left)))
 refine S.aI 19 (.cons (aE fun w hw=>PX w a.ag pa.ag (bJ (bu.ag (d:=a) (S.arg ay)) hw) (ch (aS.aW a.buf) (ch (aS.aW a.I) (ch (aS.aW a.mem) left))) (by omega) (by omega)) .nil) (decide ((ch (aS.aW a.ag) (ch (aS.aW a.buf) (ch (aS.aW a.I) (ch (aS.aW a.mem) left))))<0)) (fun ac w β eS ie S=>?_) (fun ac w β eS ie S=>?_)
 ·exact S.aq 7 .nil [aa (-1)] (b4 (by clear S;omega))
 exact S.aq 10 .nil [aa (ch (aS.aW a.ag) (ch (aS.aW a.buf) (ch (aS.aW a.I) (ch (aS.aW a.mem) left))))] (b4 (by clear S;omega))
theorem uT (w0:World) (a:List Int) (pa:aD Int) (ay:bQ w0 a pa):Calls Tryz.prog 14 [R a.length pa.1].toArray w0 (dw ab w0 (a:List Int)):=by
 refine Calls.run ab Tryz.func14 ?_
 intro ac β S
 have fG:a.length<=4194304:=ae.le ay
 refine S.go 9 .nil fun ac w β S=>S.mT (α:=Int) (m:=a.length) (by':=8) (d:=7) (by omega) (show a.length<=4194304 by omega) fun ac w N af br S up aA d4=>?_
 clear up d4
 refine S.go 10 .nil fun ac w β S=>?_
 refine c8 (fun a4 ac w=>∃(k:Nat) (acc:List Int) (bM:_) (cT:_) (u:_) (N:_) (β:_),a4=a.length-k/\(k<=a.length)/\(acc=a.take k++List.replicate (a.length-k) (GT.eR:Int))/\aj Tryz.prog Tryz.f14.ntmps w0 ab u N β ⟨[(0,.v (R a.length pa.1)),(3,.v (R a.length bM.1)),(4,.v (aa (k:Int)))],[]⟩ ac w/\ad w0 ab u N cT acc bM) _ ⟨0,(List.replicate a.length (GT.eR:Int)),af,br,_,_,_,rfl,cw,(by simp),S.z,aA⟩ ?_
 clear S aA
 rintro f8 a4 e0 ac w ⟨k,acc,bM,cT,u,N,β,rfl,hk,bz,S,ao⟩
 refine S.rs fun S=>?_
 have gI:acc.length=a.length:=by rw [bz];simp;omega
 refine S.aI 9 .nil (decide ((k:Int)<(a.length:Int))) (fun ac w β c2 eb S=>?_) (fun ac w β c2 eb S=>?_)
 ·refine S.go 13 (.cons (b5 (S.arg ay) k Tryz.underlying38) (.cons (cj (S.arg ay) 3 k) (.cons (eP ao.ak (l:=a.length) (k:=k) (i:=(k:Int)) (by rw [bz];simp;omega) rfl (by omega) Tryz.underlying38 (by kernel_rfl)) .nil))) fun ac w β S=>S.fQ (α:=Int) ao (t:=3) (k:=k) (j:=0) (off:=bM.1.off+k*1) (v:=aa (el a k)) (y:=(el a k)) (q:=()) (fun _ _ _=>⟨ab,(ae.el (S.arg ay) k (by omega)),fun _ h=>False.elim h⟩) fun w N gf n6 S up bA d15 NB tR=>?_
  clear up d15 ao tR
  have age:(acc.set k (el a k)).length=acc.length:=List.length_set
  refine S.ge 8 (.cons (cc (k:Int) 1) .nil) f8 fun ac w β S=>e0.of (a.length-(k+1)) _ _ (by omega) ⟨k+1,(acc.set k (el a k)),(bM.1,n6),gf,_,_,_,rfl,?_,?_,S.z,bA⟩
  ·exact cK
  ·clear S;rw [bz];exact sU (by omega)
 refine S.bo 13 .nil [R a.length bM.1] fun ac w β S=>?_
 exact cy S (show a=acc by clear S;rw [bz,ff (by omega),show a.length-k=0 by omega];simp) (by rw [show a.length=acc.length from(by rw [bz];simp;omega)];rfl) ao
theorem P1 (w0:World) (a:List (List Int)) (pa:aD (List Int)) (ay:bQ w0 a pa):Calls Tryz.prog 35 [R a.length pa.1].toArray w0 (dw ab w0 (a:List (List Int))):=by
 refine Calls.run ab Tryz.func35 ?_
 intro ac β S
 have fG:a.length<=4194304:=ae.le ay
 refine S.go 9 .nil fun ac w β S=>S.mT (α:=List Int) (m:=a.length) (by':=24) (d:=7) (by omega) (show a.length<=4194304 by omega) fun ac w N af br S up aA d4=>?_
 clear up d4
 refine S.go 10 .nil fun ac w β S=>?_
 refine c8 (fun a4 ac w=>∃(k:Nat) (acc:List (List Int)) (bM:_) (cT:_) (u:_) (N:_) (β:_),a4=a.length-k/\(k<=a.length)/\(acc=a.take k++List.replicate (a.length-k) (GT.eR:List Int))/\aj Tryz.prog Tryz.f35.ntmps w0 ab u N β ⟨[(0,.v (R a.length pa.1)),(3,.v (R a.length bM.1)),(4,.v (aa (k:Int)))],[]⟩ ac w/\ad w0 ab u N cT acc bM) _ ⟨0,(List.replicate a.length (GT.eR:List Int)),af,br,_,_,_,rfl,cw,(by simp),S.z,aA⟩ ?_
 clear S aA
 rintro f8 a4 e0 ac w ⟨k,acc,bM,cT,u,N,β,rfl,hk,bz,S,ao⟩
 refine S.rs fun S=>?_
 have gI:acc.length=a.length:=by rw [bz];simp;omega
 refine S.aI 9 .nil (decide ((k:Int)<(a.length:Int))) (fun ac w β c2 eb S=>?_) (fun ac w β c2 eb S=>?_)
 ·refine S.go 12 (.cons (b5 (S.arg ay) k Tryz.underlying22) (.cons (cj (S.arg ay) 38 k) .nil)) fun ac w β S=>S.cJ (r:=(el a k)) (d:=20) (uT w (el a k) (pa.2 k) (S.rd (ae.el (S.arg ay) k (by omega)))) fun ac w N jP gf S up c3 d15=>?_
  have d16:=J.w d15 ao.sub
  replace ao:=ao.up up
  clear up d15
  refine S.go 1 (.cons (eP ao.ak (l:=a.length) (k:=k) (i:=(k:Int)) (by rw [bz];simp;omega) rfl (by omega) Tryz.underlying22 (by kernel_rfl)) .nil) fun ac w β S=>S.eQ (α:=List Int) ao (t:=38) (k:=k) (off:=bM.1.off+k*1) c3 d16 fun w N ka dy S up ev d20 sR oL=>?_
  clear up d20 ao oL
  have BA:(acc.set k (el a k)).length=acc.length:=List.length_set
  refine S.ge 8 (.cons (cc (k:Int) 1) .nil) f8 fun ac w β S=>e0.of (a.length-(k+1)) _ _ (by omega) ⟨k+1,(acc.set k (el a k)),(bM.1,dy),ka,_,_,_,rfl,?_,?_,S.z,ev⟩
  ·exact cK
  ·clear S;rw [bz];exact sU (by omega)
 refine S.bo 13 .nil [R a.length bM.1] fun ac w β S=>?_
 exact cy S (show a=acc by clear S;rw [bz,ff (by omega),show a.length-k=0 by omega];simp) (by rw [show a.length=acc.length from(by rw [bz];simp;omega)];rfl) ao
theorem ZM (w0:World) (a:aR):Calls Tryz.prog 307 [GT.val a ()].toArray w0 (fun e w'=>e= .returned (GT.val a ())/\bB ab w0 w'):=by
 refine Calls.run ab Tryz.func307 ?_
 intro ac β S
 exact S.aq 34 .nil [GT.val (⟨a.page,a.bg⟩:aR) ()] (hX (p:=()) (by clear S;first|rfl|(simp [a, *];done)|(simp [a, *];omega)|(simp_all [a];done)|(simp_all [a];omega)))
theorem DL (w0:World) (a:List aR) (pa:aD aR) (ay:bQ w0 a pa):Calls Tryz.prog 234 [R a.length pa.1].toArray w0 (dw ab w0 (a:List aR)):=by
 refine Calls.run ab Tryz.func234 ?_
 intro ac β S
 have fG:a.length<=4194304:=ae.le ay
 refine S.go 9 .nil fun ac w β S=>S.mT (α:=aR) (m:=a.length) (by':=16) (d:=7) (by omega) (show a.length<=4194304 by omega) fun ac w N af br S up aA d4=>?_
 clear up d4
 refine S.go 10 .nil fun ac w β S=>?_
 refine c8 (fun a4 ac w=>∃(k:Nat) (acc:List aR) (bM:_) (cT:_) (u:_) (N:_) (β:_),a4=a.length-k/\(k<=a.length)/\(acc=a.take k++List.replicate (a.length-k) (GT.eR:aR))/\aj Tryz.prog Tryz.f234.ntmps w0 ab u N β ⟨[(0,.v (R a.length pa.1)),(3,.v (R a.length bM.1)),(4,.v (aa (k:Int)))],[]⟩ ac w/\ad w0 ab u N cT acc bM) _ ⟨0,(List.replicate a.length (GT.eR:aR)),af,br,_,_,_,rfl,cw,(by simp),S.z,aA⟩ ?_
 clear S aA
 rintro f8 a4 e0 ac w ⟨k,acc,bM,cT,u,N,β,rfl,hk,bz,S,ao⟩
 refine S.rs fun S=>?_
 have gI:acc.length=a.length:=by rw [bz];simp;omega
 refine S.aI 9 .nil (decide ((k:Int)<(a.length:Int))) (fun ac w β c2 eb S=>?_) (fun ac w β c2 eb S=>?_)
 ·have QD:ed (el acc k):=(ae.el ao.ak k (by omega))
  refine S.go 14 (.cons (b5 (S.arg ay) k Tryz.underlying119) (.cons (dz (S.arg ay) 239 k) (.cons (aE fun w hw=>ZM w (el a k)) (.cons (eP ao.ak (l:=a.length) (k:=k) (i:=(k:Int)) (by rw [bz];simp;omega) rfl (by omega) Tryz.underlying64 (by kernel_rfl)) .nil)))) fun ac w β S=>S.fQ (α:=aR) ao (t:=111) (k:=k) (j:=0) (off:=bM.1.off+k*2) (v:=GT.val (el a k) ()) (y:=(el a k)) (q:=()) (fun _ _ _=>⟨ab,(ae.el (S.arg ay) k (by omega)),fun _ h=>False.elim h⟩) fun w N e6 jj S up jM d16 Cv wy=>?_
  clear up d16 ao wy
  have Fc:(acc.set k (el a k)).length=acc.length:=List.length_set
  refine S.ge 8 (.cons (cc (k:Int) 1) .nil) f8 fun ac w β S=>e0.of (a.length-(k+1)) _ _ (by omega) ⟨k+1,(acc.set k (el a k)),(bM.1,jj),e6,_,_,_,rfl,?_,?_,S.z,jM⟩
  ·exact cK
  ·clear S;rw [bz];exact sU (by omega)
 refine S.bo 13 .nil [R a.length bM.1] fun ac w β S=>?_
 exact cy S (show a=acc by clear S;rw [bz,ff (by omega),show a.length-k=0 by omega];simp) (by rw [show a.length=acc.length from(by rw [bz];simp;omega)];rfl) ao
theorem PZ (w0:World) (a:List Bool) (pa:aD Bool) (ay:bQ w0 a pa):Calls Tryz.prog 235 [R a.length pa.1].toArray w0 (dw ab w0 (a:List Bool)):=by
 refine Calls.run ab Tryz.func235 ?_
 intro ac β S
 have fG:a.length<=4194304:=ae.le ay
 refine S.go 9 .nil fun ac w β S=>S.mT (α:=Bool) (m:=a.length) (by':=1) (d:=7) (by omega) (show a.length<=4194304 by omega) fun ac w N af br S up aA d4=>?_
 clear up d4
 refine S.go 10 .nil fun ac w β S=>?_
 refine c8 (fun a4 ac w=>∃(k:Nat) (acc:List Bool) (bM:_) (cT:_) (u:_) (N:_) (β:_),a4=a.length-k/\(k<=a.length)/\(acc=a.take k++List.replicate (a.length-k) (GT.eR:Bool))/\aj Tryz.prog Tryz.f235.ntmps w0 ab u N β ⟨[(0,.v (R a.length pa.1)),(3,.v (R a.length bM.1)),(4,.v (aa (k:Int)))],[]⟩ ac w/\ad w0 ab u N cT acc bM) _ ⟨0,(List.replicate a.length (GT.eR:Bool)),af,br,_,_,_,rfl,cw,(by simp),S.z,aA⟩ ?_
 clear S aA
 rintro f8 a4 e0 ac w ⟨k,acc,bM,cT,u,N,β,rfl,hk,bz,S,ao⟩
 refine S.rs fun S=>?_
 have gI:acc.length=a.length:=by rw [bz];simp;omega
 refine S.aI 9 .nil (decide ((k:Int)<(a.length:Int))) (fun ac w β c2 eb S=>?_) (fun ac w β c2 eb S=>?_)
 ·refine S.go 13 (.cons (b5 (S.arg ay) k Tryz.underlying39) (.cons (cj (S.arg ay) 4 k) (.cons (eP ao.ak (l:=a.length) (k:=k) (i:=(k:Int)) (by rw [bz];simp;omega) rfl (by omega) Tryz.underlying39 (by kernel_rfl)) .nil))) fun ac w β S=>S.fQ (α:=Bool) ao (t:=4) (k:=k) (j:=0) (off:=bM.1.off+k*1) (v:=B (el a k)) (y:=(el a k)) (q:=()) (fun _ _ _=>⟨ab,trivial,fun _ h=>False.elim h⟩) fun w N gf n6 S up bA d15 NB tR=>?_
  clear up d15 ao tR
  have age:(acc.set k (el a k)).length=acc.length:=List.length_set
  refine S.ge 8 (.cons (cc (k:Int) 1) .nil) f8 fun ac w β S=>e0.of (a.length-(k+1)) _ _ (by omega) ⟨k+1,(acc.set k (el a k)),(bM.1,n6),gf,_,_,_,rfl,?_,?_,S.z,bA⟩
  ·exact cK
  ·clear S;rw [bz];exact sU (by omega)
 refine S.bo 13 .nil [R a.length bM.1] fun ac w β S=>?_
 exact cy S (show a=acc by clear S;rw [bz,ff (by omega),show a.length-k=0 by omega];simp) (by rw [show a.length=acc.length from(by rw [bz];simp;omega)];rfl) ao
theorem ZG (w0:World) (a:da):Calls Tryz.prog 348 [GT.val a ()].toArray w0 (fun e w'=>e= .returned (GT.val a ())/\bB ab w0 w'):=by
 refine Calls.run ab Tryz.func348 ?_
 intro ac β S
 exact S.aq 34 .nil [GT.val (⟨a.eL,a.x⟩:da) ()] (hX (p:=()) (by clear S;first|rfl|(simp [a, *];done)|(simp [a, *];omega)|(simp_all [a];done)|(simp_all [a];omega)))
theorem ZH (w0:World) (a:List da) (pa:aD da) (ay:bQ w0 a pa):Calls Tryz.prog 336 [R a.length pa.1].toArray w0 (dw ab w0 (a:List da)):=by
 refine Calls.run ab Tryz.func336 ?_
 intro ac β S
 have fG:a.length<=4194304:=ae.le ay
 refine S.go 9 .nil fun ac w β S=>S.mT (α:=da) (m:=a.length) (by':=16) (d:=7) (by omega) (show a.length<=4194304 by omega) fun ac w N af br S up aA d4=>?_
 clear up d4
 refine S.go 10 .nil fun ac w β S=>?_
 refine c8 (fun a4 ac w=>∃(k:Nat) (acc:List da) (bM:_) (cT:_) (u:_) (N:_) (β:_),a4=a.length-k/\(k<=a.length)/\(acc=a.take k++List.replicate (a.length-k) (GT.eR:da))/\aj Tryz.prog Tryz.f336.ntmps w0 ab u N β ⟨[(0,.v (R a.length pa.1)),(3,.v (R a.length bM.1)),(4,.v (aa (k:Int)))],[]⟩ ac w/\ad w0 ab u N cT acc bM) _ ⟨0,(List.replicate a.length (GT.eR:da)),af,br,_,_,_,rfl,cw,(by simp),S.z,aA⟩ ?_
 clear S aA
 rintro f8 a4 e0 ac w ⟨k,acc,bM,cT,u,N,β,rfl,hk,bz,S,ao⟩
 refine S.rs fun S=>?_
 have gI:acc.length=a.length:=by rw [bz];simp;omega
 refine S.aI 9 .nil (decide ((k:Int)<(a.length:Int))) (fun ac w β c2 eb S=>?_) (fun ac w β c2 eb S=>?_)
 ·have QD:je (el acc k):=(ae.el ao.ak k (by omega))
  refine S.go 14 (.cons (b5 (S.arg ay) k Tryz.underlying229) (.cons (dz (S.arg ay) 266 k) (.cons (aE fun w hw=>ZG w (el a k)) (.cons (eP ao.ak (l:=a.length) (k:=k) (i:=(k:Int)) (by rw [bz];simp;omega) rfl (by omega) Tryz.underlying63 (by kernel_rfl)) .nil)))) fun ac w β S=>S.fQ (α:=da) ao (t:=128) (k:=k) (j:=0) (off:=bM.1.off+k*2) (v:=GT.val (el a k) ()) (y:=(el a k)) (q:=()) (fun _ _ _=>⟨ab,(ae.el (S.arg ay) k (by omega)),fun _ h=>False.elim h⟩) fun w N e6 jj S up jM d16 Cv wy=>?_
  clear up d16 ao wy
  have Fc:(acc.set k (el a k)).length=acc.length:=List.length_set
  refine S.ge 8 (.cons (cc (k:Int) 1) .nil) f8 fun ac w β S=>e0.of (a.length-(k+1)) _ _ (by omega) ⟨k+1,(acc.set k (el a k)),(bM.1,jj),e6,_,_,_,rfl,?_,?_,S.z,jM⟩
  ·exact cK
  ·clear S;rw [bz];exact sU (by omega)
 refine S.bo 13 .nil [R a.length bM.1] fun ac w β S=>?_
 exact cy S (show a=acc by clear S;rw [bz,ff (by omega),show a.length-k=0 by omega];simp) (by rw [show a.length=acc.length from(by rw [bz];simp;omega)];rfl) ao
theorem ZB (w0:World) (a:fy):Calls Tryz.prog 337 [GT.val a ()].toArray w0 (fun e w'=>e= .returned (GT.val a ())/\bB ab w0 w'):=by
 refine Calls.run ab Tryz.func337 ?_
 intro ac β S
 exact S.aq 42 .nil [GT.val (⟨a.aY,a.post,a.e4⟩:fy) ()] (hX (p:=()) (by clear S;first|rfl|(simp [a, *];done)|(simp [a, *];omega)|(simp_all [a];done)|(simp_all [a];omega)))
theorem ZD (w0:World) (a:dg):Calls Tryz.prog 338 [GT.val a ()].toArray w0 (fun e w'=>e= .returned (GT.val a ())/\bB ab w0 w'):=by
 refine Calls.run ab Tryz.func338 ?_
 intro ac β S
 exact S.aq 50 .nil [GT.val (⟨a.kind,a.page,a.wr,a.n⟩:dg) ()] (hX (p:=()) (by clear S;first|rfl|(simp [a, *];done)|(simp [a, *];omega)|(simp_all [a];done)|(simp_all [a];omega)))
theorem ZE (w0:World) (a:ax) (pa:c5) (ay:bQ w0 a pa):Calls Tryz.prog 308 [GT.val a pa].toArray w0 (dw ab w0 (a:ax)):=by
 refine Calls.run ab Tryz.func308 ?_
 intro ac β S
 have ae1:a.prog.length<=4194304:=ae.le (az.prog (d:=a) ay)
 have ae5:a.written.length<=4194304:=ae.le (az.written (d:=a) ay)
 have aeX:a.live.length<=4194304:=ae.le (az.live (d:=a) ay)
 have ae2:a.seen.length<=4194304:=ae.le (az.seen (d:=a) ay)
 refine S.go 15 .nil fun ac w β S=>S.cJ (r:=a.prog) (d:=6) (ZH w a.prog pa.prog (S.rd (az.prog (d:=a) (S.arg ay)))) fun ac w N af br S up aA d4=>?_
 clear up d4
 refine S.go 24 .nil fun ac w β S=>S.cJ (r:=a.written) (d:=16) (DL w a.written pa.written (S.rd (az.written (d:=a) (S.arg ay)))) fun ac w N bM cT S up ao d8=>?_
 have d9:=J.w d8 aA.sub
 replace aA:=aA.up up
 clear up d8
 refine S.go 8 .nil fun ac w β S=>S.cJ (r:=a.live) (d:=20) (DL w a.live pa.live (S.rd (az.live (d:=a) (S.arg ay)))) fun ac w N eM eh S up bA d13=>?_
 have d14:=J.w d13 aA.sub
 have d15:=J.w d13 ao.sub
 replace aA:=aA.up up
 replace ao:=ao.up up
 clear up d13
 refine S.go 42 (.cons (aE fun w hw=>ZB w a.aN) (.cons (aE fun w hw=>ZD w a.exit) .nil)) fun ac w β S=>S.cJ (r:=a.seen) (d:=38) (uT w a.seen pa.seen (S.rd (az.seen (d:=a) (S.arg ay)))) fun ac w N cv cD S up e1 d19=>?_
 have d20:=J.w d19 aA.sub
 have d21:=J.w d19 ao.sub
 have d22:=J.w d19 bA.sub
 replace aA:=aA.up up
 replace ao:=ao.up up
 replace bA:=bA.up up
 clear up d19
 refine S.bo 11 .nil [GT.val (⟨a.prog,a.acc,a.aw,a.written,a.live,a.aN,a.aC,a.exit,a.halted,a.seen⟩:ax) (⟨af,bM,eM,cv⟩:c5)] fun ac w β S=>?_
 have bb:=hK (x:=(⟨a.prog,a.acc,a.aw,a.written,a.live,a.aN,a.aC,a.exit,a.halted,a.seen⟩:ax)) (p:=(⟨af,bM,eM,cv⟩:c5)) aA ao bA e1 d9 d14 d20 d15 d21 d22 (az.acc (d:=a) (S.arg ay)) (az.aw (d:=a) (S.arg ay)) (az.aN (d:=a) (S.arg ay)) (az.aC (d:=a) (S.arg ay)) (az.exit (d:=a) (S.arg ay))
 exact cy S (show a=(⟨a.prog,a.acc,a.aw,a.written,a.live,a.aN,a.aC,a.exit,a.halted,a.seen⟩:ax) by clear S;first|rfl|simp) rfl bb
theorem ZF (w0:World) (a:List ax) (pa:aD ax) (ay:bQ w0 a pa):Calls Tryz.prog 236 [R a.length pa.1].toArray w0 (dw ab w0 (a:List ax)):=by
 refine Calls.run ab Tryz.func236 ?_
 intro ac β S
 have fG:a.length<=4194304:=ae.le ay
 refine S.go 9 .nil fun ac w β S=>S.mT (α:=ax) (m:=a.length) (by':=184) (d:=7) (by omega) (show a.length<=4194304 by omega) fun ac w N af br S up aA d4=>?_
 clear up d4
 refine S.go 10 .nil fun ac w β S=>?_
 refine c8 (fun a4 ac w=>∃(k:Nat) (acc:List ax) (bM:_) (cT:_) (u:_) (N:_) (β:_),a4=a.length-k/\(k<=a.length)/\(acc=a.take k++List.replicate (a.length-k) (GT.eR:ax))/\aj Tryz.prog Tryz.f236.ntmps w0 ab u N β ⟨[(0,.v (R a.length pa.1)),(3,.v (R a.length bM.1)),(4,.v (aa (k:Int)))],[]⟩ ac w/\ad w0 ab u N cT acc bM) _ ⟨0,(List.replicate a.length (GT.eR:ax)),af,br,_,_,_,rfl,cw,(by simp),S.z,aA⟩ ?_
 clear S aA
 rintro f8 a4 e0 ac w ⟨k,acc,bM,cT,u,N,β,rfl,hk,bz,S,ao⟩
 refine S.rs fun S=>?_
 have gI:acc.length=a.length:=by rw [bz];simp;omega
 refine S.aI 9 .nil (decide ((k:Int)<(a.length:Int))) (fun ac w β c2 eb S=>?_) (fun ac w β c2 eb S=>?_)
 ·refine S.go 12 (.cons (b5 (S.arg ay) k Tryz.underlying120) (.cons (dz (S.arg ay) 233 k) .nil)) fun ac w β S=>S.cJ (r:=(el a k)) (d:=20) (ZE w (el a k) (pa.2 k) (S.rd (ae.el (S.arg ay) k (by omega)))) fun ac w N jP gf S up c3 d15=>?_
  have d16:=J.w d15 ao.sub
  replace ao:=ao.up up
  clear up d15
  refine S.go 1 (.cons (eP ao.ak (l:=a.length) (k:=k) (i:=(k:Int)) (by rw [bz];simp;omega) rfl (by omega) Tryz.underlying71 (by kernel_rfl)) .nil) fun ac w β S=>S.eQ (α:=ax) ao (t:=70) (k:=k) (off:=bM.1.off+k*15) c3 d16 fun w N ka dy S up ev d20 sR oL=>?_
  clear up d20 ao oL
  have BA:(acc.set k (el a k)).length=acc.length:=List.length_set
  refine S.ge 8 (.cons (cc (k:Int) 1) .nil) f8 fun ac w β S=>e0.of (a.length-(k+1)) _ _ (by omega) ⟨k+1,(acc.set k (el a k)),(bM.1,dy),ka,_,_,_,rfl,?_,?_,S.z,ev⟩
  ·exact cK
  ·clear S;rw [bz];exact sU (by omega)
 refine S.bo 13 .nil [R a.length bM.1] fun ac w β S=>?_
 exact cy S (show a=acc by clear S;rw [bz,ff (by omega),show a.length-k=0 by omega];simp) (by rw [show a.length=acc.length from(by rw [bz];simp;omega)];rfl) ao
theorem ZI (w0:World) (a:bS) (pa:fx) (ay:bQ w0 a pa):Calls Tryz.prog 309 [GT.val a pa].toArray w0 (dw ab w0 (a:bS)):=by
 refine Calls.run ab Tryz.func309 ?_
 intro ac β S
 have aeW:a.known.length<=4194304:=ae.le (ey.known (d:=a) ay)
 have ae3:a.aZ.length<=4194304:=ae.le (ey.aZ (d:=a) ay)
 refine S.go 15 .nil fun ac w β S=>S.cJ (r:=a.known) (d:=6) (PZ w a.known pa.known (S.rd (ey.known (d:=a) (S.arg ay)))) fun ac w N af br S up aA d4=>?_
 clear up d4
 refine S.go 8 .nil fun ac w β S=>S.cJ (r:=a.aZ) (d:=10) (DL w a.aZ pa.aZ (S.rd (ey.aZ (d:=a) (S.arg ay)))) fun ac w N bM cT S up ao d8=>?_
 have d9:=J.w d8 aA.sub
 replace aA:=aA.up up
 clear up d8
 refine S.bo 11 .nil [GT.val (⟨a.known,a.aZ⟩:bS) (⟨af,bM⟩:fx)] fun ac w β S=>?_
 have nj:=ma (x:=(⟨a.known,a.aZ⟩:bS)) (p:=(⟨af,bM⟩:fx)) aA ao d9
 exact cy S (show a=(⟨a.known,a.aZ⟩:bS) by clear S;first|rfl|simp) rfl nj
theorem ZJ (w0:World) (a:List bS) (pa:aD bS) (ay:bQ w0 a pa):Calls Tryz.prog 237 [R a.length pa.1].toArray w0 (dw ab w0 (a:List bS)):=by
 refine Calls.run ab Tryz.func237 ?_
 intro ac β S
 have fG:a.length<=4194304:=ae.le ay
 refine S.go 9 .nil fun ac w β S=>S.mT (α:=bS) (m:=a.length) (by':=48) (d:=7) (by omega) (show a.length<=4194304 by omega) fun ac w N af br S up aA d4=>?_
 clear up d4
 refine S.go 10 .nil fun ac w β S=>?_
 refine c8 (fun a4 ac w=>∃(k:Nat) (acc:List bS) (bM:_) (cT:_) (u:_) (N:_) (β:_),a4=a.length-k/\(k<=a.length)/\(acc=a.take k++List.replicate (a.length-k) (GT.eR:bS))/\aj Tryz.prog Tryz.f237.ntmps w0 ab u N β ⟨[(0,.v (R a.length pa.1)),(3,.v (R a.length bM.1)),(4,.v (aa (k:Int)))],[]⟩ ac w/\ad w0 ab u N cT acc bM) _ ⟨0,(List.replicate a.length (GT.eR:bS)),af,br,_,_,_,rfl,cw,(by simp),S.z,aA⟩ ?_
 clear S aA
 rintro f8 a4 e0 ac w ⟨k,acc,bM,cT,u,N,β,rfl,hk,bz,S,ao⟩
 refine S.rs fun S=>?_
 have gI:acc.length=a.length:=by rw [bz];simp;omega
 refine S.aI 9 .nil (decide ((k:Int)<(a.length:Int))) (fun ac w β c2 eb S=>?_) (fun ac w β c2 eb S=>?_)
 ·refine S.go 12 (.cons (b5 (S.arg ay) k Tryz.underlying121) (.cons (dz (S.arg ay) 236 k) .nil)) fun ac w β S=>S.cJ (r:=(el a k)) (d:=20) (ZI w (el a k) (pa.2 k) (S.rd (ae.el (S.arg ay) k (by omega)))) fun ac w N jP gf S up c3 d15=>?_
  have d16:=J.w d15 ao.sub
  replace ao:=ao.up up
  clear up d15
  refine S.go 1 (.cons (eP ao.ak (l:=a.length) (k:=k) (i:=(k:Int)) (by rw [bz];simp;omega) rfl (by omega) Tryz.underlying72 (by kernel_rfl)) .nil) fun ac w β S=>S.eQ (α:=bS) ao (t:=165) (k:=k) (off:=bM.1.off+k*2) c3 d16 fun w N ka dy S up ev d20 sR oL=>?_
  clear up d20 ao oL
  have BA:(acc.set k (el a k)).length=acc.length:=List.length_set
  refine S.ge 8 (.cons (cc (k:Int) 1) .nil) f8 fun ac w β S=>e0.of (a.length-(k+1)) _ _ (by omega) ⟨k+1,(acc.set k (el a k)),(bM.1,dy),ka,_,_,_,rfl,?_,?_,S.z,ev⟩
  ·exact cK
  ·clear S;rw [bz];exact sU (by omega)
 refine S.bo 13 .nil [R a.length bM.1] fun ac w β S=>?_
 exact cy S (show a=acc by clear S;rw [bz,ff (by omega),show a.length-k=0 by omega];simp) (by rw [show a.length=acc.length from(by rw [bz];simp;omega)];rfl) ao
theorem ZK (w0:World) (a:aO) (pa:ft) (ay:bQ w0 a pa):Calls Tryz.prog 124 [GT.val a pa].toArray w0 (dw ab w0 (a:aO)):=by
 refine Calls.run ab Tryz.func124 ?_
 intro ac β S
 have aeZ:a.outer.length<=4194304:=ae.le (aU.outer (d:=a) ay)
 have aeY:a.out.length<=4194304:=ae.le (aU.out (d:=a) ay)
 have aeU:a.aT.length<=4194304:=ae.le (aU.aT (d:=a) ay)
 have aeV:a.U.length<=4194304:=ae.le (aU.U (d:=a) ay)
 have ae0:a.outs.length<=4194304:=ae.le (aU.outs (d:=a) ay)
 have ae4:a.tables.length<=4194304:=ae.le (aU.tables (d:=a) ay)
 refine S.go 15 .nil fun ac w β S=>S.cJ (r:=a.outer) (d:=6) (DL w a.outer pa.outer (S.rd (aU.outer (d:=a) (S.arg ay)))) fun ac w N af br S up aA d4=>?_
 clear up d4
 refine S.go 8 .nil fun ac w β S=>S.cJ (r:=a.out) (d:=10) (P1 w a.out pa.out (S.rd (aU.out (d:=a) (S.arg ay)))) fun ac w N bM cT S up ao d8=>?_
 have d9:=J.w d8 aA.sub
 replace aA:=aA.up up
 clear up d8
 refine S.go 8 .nil fun ac w β S=>S.cJ (r:=a.aT) (d:=14) (PZ w a.aT pa.aT (S.rd (aU.aT (d:=a) (S.arg ay)))) fun ac w N eM eh S up bA d13=>?_
 have d14:=J.w d13 aA.sub
 have d15:=J.w d13 ao.sub
 replace aA:=aA.up up
 replace ao:=ao.up up
 clear up d13
 refine S.go 8 .nil fun ac w β S=>S.cJ (r:=a.U) (d:=18) (ZF w a.U pa.U (S.rd (aU.U (d:=a) (S.arg ay)))) fun ac w N cv cD S up e1 d19=>?_
 have d20:=J.w d19 aA.sub
 have d21:=J.w d19 ao.sub
 have d22:=J.w d19 bA.sub
 replace aA:=aA.up up
 replace ao:=ao.up up
 replace bA:=bA.up up
 clear up d19
 refine S.go 8 .nil fun ac w β S=>S.cJ (r:=a.outs) (d:=22) (uT w a.outs pa.outs (S.rd (aU.outs (d:=a) (S.arg ay)))) fun ac w N fe mf S up dm d26=>?_
 have d27:=J.w d26 aA.sub
 have d28:=J.w d26 ao.sub
 have d29:=J.w d26 bA.sub
 have d30:=J.w d26 e1.sub
 replace aA:=aA.up up
 replace ao:=ao.up up
 replace bA:=bA.up up
 replace e1:=e1.up up
 clear up d26
 refine S.go 24 .nil fun ac w β S=>S.cJ (r:=a.tables) (d:=32) (ZJ w a.tables pa.tables (S.rd (aU.tables (d:=a) (S.arg ay)))) fun ac w N kS mR S up gz d34=>?_
 have d35:=J.w d34 aA.sub
 have d36:=J.w d34 ao.sub
 have d37:=J.w d34 bA.sub
 have d38:=J.w d34 e1.sub
 have d39:=J.w d34 dm.sub
 replace aA:=aA.up up
 replace ao:=ao.up up
 replace bA:=bA.up up
 replace e1:=e1.up up
 replace dm:=dm.up up
 clear up d34
 refine S.bo 19 .nil [GT.val (⟨a.outer,a.out,a.aT,a.U,a.outs,a.aC,a.aY,a.tables,a.owned⟩:aO) (⟨af,bM,eM,cv,fe,kS⟩:ft)] fun ac w β S=>?_
 have kj:=FO (x:=(⟨a.outer,a.out,a.aT,a.U,a.outs,a.aC,a.aY,a.tables,a.owned⟩:aO)) (p:=(⟨af,bM,eM,cv,fe,kS⟩:ft)) aA ao bA e1 dm gz d9 d14 d20 d27 d35 d15 d21 d28 d36 d22 d29 d37 d30 d38 d39 (aU.aC (d:=a) (S.arg ay)) (aU.aY (d:=a) (S.arg ay)) (aU.owned (d:=a) (S.arg ay))
 exact cy S (show a=(⟨a.outer,a.out,a.aT,a.U,a.outs,a.aC,a.aY,a.tables,a.owned⟩:aO) by clear S;first|rfl|simp) rfl kj
theorem ZL (w0:World) (a:List aO) (pa:aD aO) (ay:bQ w0 a pa):Calls Tryz.prog 36 [R a.length pa.1].toArray w0 (dw ab w0 (a:List aO)):=by
 refine Calls.run ab Tryz.func36 ?_
 intro ac β S
 have fG:a.length<=4194304:=ae.le ay
 refine S.go 9 .nil fun ac w β S=>S.mT (α:=aO) (m:=a.length) (by':=168) (d:=7) (by omega) (show a.length<=4194304 by omega) fun ac w N af br S up aA d4=>?_
 clear up d4
 refine S.go 10 .nil fun ac w β S=>?_
 refine c8 (fun a4 ac w=>∃(k:Nat) (acc:List aO) (bM:_) (cT:_) (u:_) (N:_) (β:_),a4=a.length-k/\(k<=a.length)/\(acc=a.take k++List.replicate (a.length-k) (GT.eR:aO))/\aj Tryz.prog Tryz.f36.ntmps w0 ab u N β ⟨[(0,.v (R a.length pa.1)),(3,.v (R a.length bM.1)),(4,.v (aa (k:Int)))],[]⟩ ac w/\ad w0 ab u N cT acc bM) _ ⟨0,(List.replicate a.length (GT.eR:aO)),af,br,_,_,_,rfl,cw,(by simp),S.z,aA⟩ ?_
 clear S aA
 rintro f8 a4 e0 ac w ⟨k,acc,bM,cT,u,N,β,rfl,hk,bz,S,ao⟩
 refine S.rs fun S=>?_
 have gI:acc.length=a.length:=by rw [bz];simp;omega
 refine S.aI 9 .nil (decide ((k:Int)<(a.length:Int))) (fun ac w β c2 eb S=>?_) (fun ac w β c2 eb S=>?_)
 ·refine S.go 12 (.cons (b5 (S.arg ay) k Tryz.underlying23) (.cons (dz (S.arg ay) 123 k) .nil)) fun ac w β S=>S.cJ (r:=(el a k)) (d:=20) (ZK w (el a k) (pa.2 k) (S.rd (ae.el (S.arg ay) k (by omega)))) fun ac w N jP gf S up c3 d15=>?_
  have d16:=J.w d15 ao.sub
  replace ao:=ao.up up
  clear up d15
  refine S.go 1 (.cons (eP ao.ak (l:=a.length) (k:=k) (i:=(k:Int)) (by rw [bz];simp;omega) rfl (by omega) Tryz.underlying28 (by kernel_rfl)) .nil) fun ac w β S=>S.eQ (α:=aO) ao (t:=74) (k:=k) (off:=bM.1.off+k*9) c3 d16 fun w N ka dy S up ev d20 sR oL=>?_
  clear up d20 ao oL
  have BA:(acc.set k (el a k)).length=acc.length:=List.length_set
  refine S.ge 8 (.cons (cc (k:Int) 1) .nil) f8 fun ac w β S=>e0.of (a.length-(k+1)) _ _ (by omega) ⟨k+1,(acc.set k (el a k)),(bM.1,dy),ka,_,_,_,rfl,?_,?_,S.z,ev⟩
  ·exact cK
  ·clear S;rw [bz];exact sU (by omega)
 refine S.bo 13 .nil [R a.length bM.1] fun ac w β S=>?_
 exact cy S (show a=acc by clear S;rw [bz,ff (by omega),show a.length-k=0 by omega];simp) (by rw [show a.length=acc.length from(by rw [bz];simp;omega)];rfl) ao
theorem ZC (w0:World) (a:aH):Calls Tryz.prog 125 [GT.val a ()].toArray w0 (fun e w'=>e= .returned (GT.val a ())/\bB ab w0 w'):=by
 refine Calls.run ab Tryz.func125 ?_
 intro ac β S
 exact S.aq 50 .nil [GT.val (⟨a.tag,a.page,a.host,a.bg⟩:aH) ()] (hX (p:=()) (by clear S;first|rfl|(simp [a, *];done)|(simp [a, *];omega)|(simp_all [a];done)|(simp_all [a];omega)))
theorem P0 (w0:World) (a:List aH) (pa:aD aH) (ay:bQ w0 a pa):Calls Tryz.prog 37 [R a.length pa.1].toArray w0 (dw ab w0 (a:List aH)):=by
 refine Calls.run ab Tryz.func37 ?_
 intro ac β S
 have fG:a.length<=4194304:=ae.le ay
 refine S.go 9 .nil fun ac w β S=>S.mT (α:=aH) (m:=a.length) (by':=32) (d:=7) (by omega) (show a.length<=4194304 by omega) fun ac w N af br S up aA d4=>?_
 clear up d4
 refine S.go 10 .nil fun ac w β S=>?_
 refine c8 (fun a4 ac w=>∃(k:Nat) (acc:List aH) (bM:_) (cT:_) (u:_) (N:_) (β:_),a4=a.length-k/\(k<=a.length)/\(acc=a.take k++List.replicate (a.length-k) (GT.eR:aH))/\aj Tryz.prog Tryz.f37.ntmps w0 ab u N β ⟨[(0,.v (R a.length pa.1)),(3,.v (R a.length bM.1)),(4,.v (aa (k:Int)))],[]⟩ ac w/\ad w0 ab u N cT acc bM) _ ⟨0,(List.replicate a.length (GT.eR:aH)),af,br,_,_,_,rfl,cw,(by simp),S.z,aA⟩ ?_
 clear S aA
 rintro f8 a4 e0 ac w ⟨k,acc,bM,cT,u,N,β,rfl,hk,bz,S,ao⟩
 refine S.rs fun S=>?_
 have gI:acc.length=a.length:=by rw [bz];simp;omega
 refine S.aI 9 .nil (decide ((k:Int)<(a.length:Int))) (fun ac w β c2 eb S=>?_) (fun ac w β c2 eb S=>?_)
 ·have QD:fi (el acc k):=(ae.el ao.ak k (by omega))
  refine S.go 14 (.cons (b5 (S.arg ay) k Tryz.underlying24) (.cons (dz (S.arg ay) 140 k) (.cons (aE fun w hw=>ZC w (el a k)) (.cons (eP ao.ak (l:=a.length) (k:=k) (i:=(k:Int)) (by rw [bz];simp;omega) rfl (by omega) Tryz.underlying29 (by kernel_rfl)) .nil)))) fun ac w β S=>S.fQ (α:=aH) ao (t:=138) (k:=k) (j:=0) (off:=bM.1.off+k*4) (v:=GT.val (el a k) ()) (y:=(el a k)) (q:=()) (fun _ _ _=>⟨ab,(ae.el (S.arg ay) k (by omega)),fun _ h=>False.elim h⟩) fun w N e6 jj S up jM d16 Cv wy=>?_
  clear up d16 ao wy
  have Fc:(acc.set k (el a k)).length=acc.length:=List.length_set
  refine S.ge 8 (.cons (cc (k:Int) 1) .nil) f8 fun ac w β S=>e0.of (a.length-(k+1)) _ _ (by omega) ⟨k+1,(acc.set k (el a k)),(bM.1,jj),e6,_,_,_,rfl,?_,?_,S.z,jM⟩
  ·exact cK
  ·clear S;rw [bz];exact sU (by omega)
 refine S.bo 13 .nil [R a.length bM.1] fun ac w β S=>?_
 exact cy S (show a=acc by clear S;rw [bz,ff (by omega),show a.length-k=0 by omega];simp) (by rw [show a.length=acc.length from(by rw [bz];simp;omega)];rfl) ao
theorem DK (w0:World) (a:ah) (pa:b_) (ay:bQ w0 a pa):Calls Tryz.prog 8 [GT.val a pa].toArray w0 (dw ab w0 (a:ah)):=by
 refine Calls.run ab Tryz.func8 ?_
 intro ac β S
 have SR:a.mem.length<=4194304:=ae.le (bu.mem (d:=a) ay)
 have SS:a.I.length<=4194304:=ae.le (bu.I (d:=a) ay)
 have SP:a.buf.length<=4194304:=ae.le (bu.buf (d:=a) ay)
 have SQ:a.ag.length<=4194304:=ae.le (bu.ag (d:=a) ay)
 refine S.go 15 .nil fun ac w β S=>S.cJ (r:=a.mem) (d:=6) (P1 w a.mem pa.mem (S.rd (bu.mem (d:=a) (S.arg ay)))) fun ac w N af br S up aA d4=>?_
 clear up d4
 refine S.go 8 .nil fun ac w β S=>S.cJ (r:=a.I) (d:=10) (ZL w a.I pa.I (S.rd (bu.I (d:=a) (S.arg ay)))) fun ac w N bM cT S up ao d8=>?_
 have d9:=J.w d8 aA.sub
 replace aA:=aA.up up
 clear up d8
 refine S.go 8 .nil fun ac w β S=>S.cJ (r:=a.buf) (d:=14) (P0 w a.buf pa.buf (S.rd (bu.buf (d:=a) (S.arg ay)))) fun ac w N eM eh S up bA d13=>?_
 have d14:=J.w d13 aA.sub
 have d15:=J.w d13 ao.sub
 replace aA:=aA.up up
 replace ao:=ao.up up
 clear up d13
 refine S.go 8 .nil fun ac w β S=>S.cJ (r:=a.ag) (d:=18) (P0 w a.ag pa.ag (S.rd (bu.ag (d:=a) (S.arg ay)))) fun ac w N cv cD S up e1 d19=>?_
 have d20:=J.w d19 aA.sub
 have d21:=J.w d19 ao.sub
 have d22:=J.w d19 bA.sub
 replace aA:=aA.up up
 replace ao:=ao.up up
 replace bA:=bA.up up
 clear up d19
 refine S.bo 11 .nil [GT.val (⟨a.mem,a.I,a.buf,a.ag⟩:ah) (⟨af,bM,eM,cv⟩:b_)] fun ac w β S=>?_
 have bb:=fs (x:=(⟨a.mem,a.I,a.buf,a.ag⟩:ah)) (p:=(⟨af,bM,eM,cv⟩:b_)) aA ao bA e1 d9 d14 d20 d15 d21 d22
 exact cy S (show a=(⟨a.mem,a.I,a.buf,a.ag⟩:ah) by clear S;first|rfl|simp) rfl bb
theorem p4 (w0:World) (l:List (List Int)) (pl:aD (List Int)) (hl:bQ w0 l pl):Calls Tryz.prog 100 [R l.length pl.1].toArray w0 (dw ab w0 (l:List (List Int))):=by
 refine Calls.run ab Tryz.func100 ?_
 intro ac β S
 have yB:l.length<=4194304:=ae.le hl
 refine S.go 7 .nil fun ac w β S=>S.gE (α:=List Int) (d:=5) fun ac w N af br S up aA d4=>?_
 clear up d4
 refine S.go 10 .nil fun ac w β S=>?_
 refine c8 (fun a4 ac w=>∃(k:Nat) (acc:List (List Int)) (bM:_) (cT:_) (u:_) (N:_) (β:_),a4=l.length-k/\(k<=l.length)/\(acc=l.take k)/\aj Tryz.prog Tryz.f100.ntmps w0 ab u N β ⟨[(0,.v (R l.length pl.1)),(3,.v (R acc.length bM.1)),(4,.v (aa (k:Int)))],[]⟩ ac w/\ad w0 ab u N cT acc bM) _ ⟨0,([]:List (List Int)),af,br,_,_,_,rfl,cw,(by simp),S.z,aA⟩ ?_
 clear S aA
 rintro f8 a4 e0 ac w ⟨k,acc,bM,cT,u,N,β,rfl,hk,bz,S,ao⟩
 refine S.rs fun S=>?_
 have gI:acc.length=k:=by rw [bz];simp;omega
 refine S.aI 9 .nil (decide ((k:Int)<(l.length:Int))) (fun ac w β c2 eb S=>?_) (fun ac w β c2 eb S=>?_)
 ·refine S.go 7 .nil fun ac w β S=>S.gE (α:=Int) (d:=13) fun ac w N jP gf S up c3 d15=>?_
  have d16:=J.w d15 ao.sub
  replace ao:=ao.up up
  clear up d15
  have XI:(el l k).length<=4194304:=ae.le (ae.el (S.arg hl) k (by omega))
  refine S.go 4 (.cons (b5 (S.arg hl) k Tryz.underlying22) (.cons (cj (S.arg hl) 38 k) .nil)) fun ac w β S=>S.lG (α:=Int) c3 (ae.el (S.arg hl) k (by omega)) (fun _ _ h=>h) (by':=8) (d:=18) (lx:=0) (ly:=(el l k).length) rfl fun ac w N wL ka S up eA d20=>?_
  have d22:=d20 _ d16 ao.sub
  replace ao:=ao.bk d16 up
  clear up d20
  refine S.h3 (α:=List Int) (x:=(el l k)) (p:=wL) eA.own eA.sub eA.dM (d:=19) fun ac w N fe mf S up dm d26=>?_
  have d27:=d26 _ d22 ao.sub
  replace ao:=ao.up up
  clear up d26
  refine S.w_ (α:=List Int) ao dm d27 (by':=24) (d:=20) (lx:=acc.length) (ly:=1) rfl rfl (show _<=4194304 by simp only [List.length_append,List.length_cons,List.length_nil];omega) fun ac w N oS xg S up e2 d31=>?_
  clear up d31
  refine S.ge 9 (.cons (cc (k:Int) 1) .nil) f8 fun ac w β S=>e0.of (l.length-(k+1)) _ _ (by omega) ⟨k+1,(acc++[(el l k)]),oS,xg,_,_,_,rfl,?_,?_,S.z,e2⟩
  ·exact cK
  ·clear S;(first|(rw [jb (by omega),bz];done)|(rw [jb (by omega),bz];simp;done))
 refine S.bo 13 .nil [R acc.length bM.1] fun ac w β S=>?_
 exact cy S (show l=acc by clear S;(rw [bz,ff (by omega)])) rfl ao
theorem uV (w0:World) (g:ax) (bf:c5) (aJ:bQ w0 g bf):Calls Tryz.prog 107 [GT.val g bf].toArray w0 (dw ab w0 (g:ax)):=by
 refine Calls.run ab Tryz.func107 ?_
 intro ac β S
 have iE:g.prog.length<=4194304:=ae.le (az.prog (d:=g) aJ)
 have iG:g.written.length<=4194304:=ae.le (az.written (d:=g) aJ)
 have iD:g.live.length<=4194304:=ae.le (az.live (d:=g) aJ)
 have iF:g.seen.length<=4194304:=ae.le (az.seen (d:=g) aJ)
 refine S.go 8 .nil fun ac w β S=>S.gE (α:=da) (d:=3) fun ac w N af br S up aA d4=>?_
 clear up d4
 have uR:g.prog.length<=4194304:=ae.le (az.prog (d:=g) (S.arg aJ))
 refine S.go 2 .nil fun ac w β S=>S.lG (α:=da) aA (az.prog (d:=g) (S.arg aJ)) (fun _ _ h=>h) (by':=16) (d:=6) (lx:=0) (ly:=g.prog.length) rfl fun ac w N bM cT S up ao d8=>?_
 clear up d8
 refine S.go 6 .nil fun ac w β S=>S.gE (α:=aR) (d:=8) fun ac w N eM eh S up bA d13=>?_
 have d14:=J.w d13 ao.sub
 replace ao:=ao.up up
 clear up d13
 have amG:g.written.length<=4194304:=ae.le (az.written (d:=g) (S.arg aJ))
 refine S.go 2 .nil fun ac w β S=>S.lG (α:=aR) bA (az.written (d:=g) (S.arg aJ)) (fun _ _ h=>h) (by':=16) (d:=11) (lx:=0) (ly:=g.written.length) rfl fun ac w N jj pU S up ev d18=>?_
 have d20:=d18 _ d14 ao.sub
 replace ao:=ao.bk d14 up
 clear up d18
 refine S.go 6 .nil fun ac w β S=>S.gE (α:=aR) (d:=13) fun ac w N c9 fJ S up bb d24=>?_
 have d25:=J.w d24 ao.sub
 have d26:=J.w d24 ev.sub
 replace ao:=ao.up up
 replace ev:=ev.up up
 clear up d24
 have O0:g.live.length<=4194304:=ae.le (az.live (d:=g) (S.arg aJ))
 refine S.go 2 .nil fun ac w β S=>S.lG (α:=aR) bb (az.live (d:=g) (S.arg aJ)) (fun _ _ h=>h) (by':=16) (d:=16) (lx:=0) (ly:=g.live.length) rfl fun ac w N e9 ob S up kL d30=>?_
 have d32:=d30 _ d25 ao.sub
 have d33:=d30 _ d26 ev.sub
 replace ao:=ao.bk d25 up
 replace ev:=ev.bk d26 up
 clear up d30
 refine S.go 6 .nil fun ac w β S=>S.gE (α:=Int) (d:=18) fun ac w N jx mg S up e3 d37=>?_
 have d38:=J.w d37 ao.sub
 have d39:=J.w d37 ev.sub
 have d40:=J.w d37 kL.sub
 replace ao:=ao.up up
 replace ev:=ev.up up
 replace kL:=kL.up up
 clear up d37
 have O1:g.seen.length<=4194304:=ae.le (az.seen (d:=g) (S.arg aJ))
 refine S.go 2 .nil fun ac w β S=>S.lG (α:=Int) e3 (az.seen (d:=g) (S.arg aJ)) (fun _ _ h=>h) (by':=8) (d:=21) (lx:=0) (ly:=g.seen.length) rfl fun ac w N oT zA S up k7 d44=>?_
 have d46:=d44 _ d38 ao.sub
 have d47:=d44 _ d39 ev.sub
 have d48:=d44 _ d40 kL.sub
 replace ao:=ao.bk d38 up
 replace ev:=ev.bk d39 up
 replace kL:=kL.bk d40 up
 clear up d44
 refine S.bo 11 .nil [GT.val (⟨g.prog,g.acc,g.aw,g.written,g.live,g.aN,g.aC,g.exit,g.halted,g.seen⟩:ax) (⟨bM,jj,e9,oT⟩:c5)] fun ac w β S=>?_
 have ht:=hK (x:=(⟨g.prog,g.acc,g.aw,g.written,g.live,g.aN,g.aC,g.exit,g.halted,g.seen⟩:ax)) (p:=(⟨bM,jj,e9,oT⟩:c5)) ao ev kL k7 d20 d32 d46 d33 d47 d48 (az.acc (d:=g) (S.arg aJ)) (az.aw (d:=g) (S.arg aJ)) (az.aN (d:=g) (S.arg aJ)) (az.aC (d:=g) (S.arg aJ)) (az.exit (d:=g) (S.arg aJ))
 exact cy S (show g=(⟨g.prog,g.acc,g.aw,g.written,g.live,g.aN,g.aC,g.exit,g.halted,g.seen⟩:ax) by clear S;(first|rfl|simp)) rfl ht
theorem aal (w0:World) (l:List ax) (pl:aD ax) (hl:bQ w0 l pl):Calls Tryz.prog 217 [R l.length pl.1].toArray w0 (dw ab w0 (l:List ax)):=by
 refine Calls.run ab Tryz.func217 ?_
 intro ac β S
 have yB:l.length<=4194304:=ae.le hl
 refine S.go 7 .nil fun ac w β S=>S.gE (α:=ax) (d:=5) fun ac w N af br S up aA d4=>?_
 clear up d4
 refine S.go 10 .nil fun ac w β S=>?_
 refine c8 (fun a4 ac w=>∃(k:Nat) (acc:List ax) (bM:_) (cT:_) (u:_) (N:_) (β:_),a4=l.length-k/\(k<=l.length)/\(acc=l.take k)/\aj Tryz.prog Tryz.f217.ntmps w0 ab u N β ⟨[(0,.v (R l.length pl.1)),(3,.v (R acc.length bM.1)),(4,.v (aa (k:Int)))],[]⟩ ac w/\ad w0 ab u N cT acc bM) _ ⟨0,([]:List ax),af,br,_,_,_,rfl,cw,(by simp),S.z,aA⟩ ?_
 clear S aA
 rintro f8 a4 e0 ac w ⟨k,acc,bM,cT,u,N,β,rfl,hk,bz,S,ao⟩
 refine S.rs fun S=>?_
 have gI:acc.length=k:=by rw [bz];simp;omega
 refine S.aI 9 .nil (decide ((k:Int)<(l.length:Int))) (fun ac w β c2 eb S=>?_) (fun ac w β c2 eb S=>?_)
 ·refine S.go 11 (.cons (b5 (S.arg hl) k Tryz.underlying71) (.cons (dz (S.arg hl) 70 k) .nil)) fun ac w β S=>S.cJ (r:=(el l k)) (d:=17) (uV w (el l k) (pl.2 k) (S.rd (ae.el (S.arg hl) k (by omega)))) fun ac w N jP gf S up c3 d15=>?_
  have d16:=J.w d15 ao.sub
  replace ao:=ao.up up
  clear up d15
  refine S.h3 (α:=ax) (x:=(el l k)) (p:=jP) c3.own c3.sub c3.dM (d:=18) fun ac w N wL ka S up eA d20=>?_
  have d21:=d20 _ d16 ao.sub
  replace ao:=ao.up up
  clear up d20
  refine S.w_ (α:=ax) ao eA d21 (by':=184) (d:=19) (lx:=acc.length) (ly:=1) rfl rfl (show _<=4194304 by simp only [List.length_append,List.length_cons,List.length_nil];omega) fun ac w N uf s4 S up j3 d25=>?_
  clear up d25
  refine S.ge 9 (.cons (cc (k:Int) 1) .nil) f8 fun ac w β S=>e0.of (l.length-(k+1)) _ _ (by omega) ⟨k+1,(acc++[(el l k)]),uf,s4,_,_,_,rfl,?_,?_,S.z,j3⟩
  ·exact cK
  ·clear S;(first|(rw [jb (by omega),bz];done)|(rw [jb (by omega),bz];simp;done))
 refine S.bo 13 .nil [R acc.length bM.1] fun ac w β S=>?_
 exact cy S (show l=acc by clear S;(rw [bz,ff (by omega)])) rfl ao
theorem DO (w0:World) (k:bS) (et:fx) (hk:bQ w0 k et):Calls Tryz.prog 218 [GT.val k et].toArray w0 (dw ab w0 (k:bS)):=by
 refine Calls.run ab Tryz.func218 ?_
 intro ac β S
 have q4:k.known.length<=4194304:=ae.le (ey.known (d:=k) hk)
 have q5:k.aZ.length<=4194304:=ae.le (ey.aZ (d:=k) hk)
 refine S.go 7 .nil fun ac w β S=>?_
 refine dI ?_
 let bH:b3:=⟨[(1,.p 0 0),(2,.p 1 0)],[GT.cells k et,cg bS]⟩
 obtain⟨bw,bt,bP,S⟩:∃bw bt bP,aj Tryz.prog Tryz.f218.ntmps w0 ab bw bt bP bH ac w:=⟨_,_,_,S.z⟩
 refine me (fun ac w=>∃n9 o1 rB uJ u N β,aj Tryz.prog Tryz.f218.ntmps w0 ab u N β (bH.dl [1] [] 2 [(1,[R k.known.length n9.1,R k.aZ.length rB.1])]) ac w/\ad w0 ab u N o1 k.known n9/\ad w0 ab u N uJ k.aZ rB/\J o1 uJ) ?_ ?_
 ·refine S.dR (f:=10) 9 (by kernel_rfl) (by kernel_rfl) fun w S=>?_
  refine S.hm 6 [1,2,5,6] [] [(5,.v (R k.known.length et.known.1)),(9,.v (R k.aZ.length et.aZ.1))] .nil fun ac S=>?_
  refine ar.mH fun W aG=>?_
  refine ar.mj (l':=cp 10 [1,2,5,6]) (by kernel_rfl) ?_
  have aef ac w n9 o1 rB uJ u N β (S:aj Tryz.prog Tryz.f218.ntmps w0 ab u N β (bH.dl [1] [] 2 [(1,[R k.known.length n9.1,R k.aZ.length rB.1])]) ac w) (rp:ad w0 ab u N o1 k.known n9) (pI:ad w0 ab u N uJ k.aZ rB) (d75:J o1 uJ):W 0 (cp 10 [0,1,2,3,4,5,6,7,8,9]) ac w:=by
   exact mL aG ⟨rfl,n9,o1,rB,uJ,_,_,_,S.z,rp,pI,d75⟩
  have aeg ac w Nm De y8 xj u N β (S:aj Tryz.prog Tryz.f218.ntmps w0 ab u N β (bH.dl [1] [(11,.v (GT.val (⟨k.known,k.aZ⟩:bS) (⟨Nm,y8⟩:fx)))] 2 []) ac w) (B4:ad w0 ab u N De k.known Nm) (sG:ad w0 ab u N xj k.aZ y8) (d77:J De xj) (al:d_ bt bw N u) (aP:cR bH.aM.length bP β):W 1 (cp 10 [0,1,2,3,4,5,6,7,8]) ac w:=by
   exact eo aG 9 (S.wl aG [] .nil fun _ _ _ S=>aef _ _ Nm De y8 xj _ _ _ S B4 sG d77)
  have aeh ac w wN Hj kR lI u N β (S:aj Tryz.prog Tryz.f218.ntmps w0 ab u N β (bH.dl [1] [(6,.v (R k.known.length kR.1)),(10,.v (R k.aZ.length wN.1))] 2 []) ac w) (e8:ad w0 ab u N Hj k.aZ wN) (j3:ad w0 ab u N lI k.known kR) (d79:J Hj lI) (al:d_ bt bw N u) (aP:cR bH.aM.length bP β):W 2 (cp 10 [0,1,2,3,4,5,6,7]) ac w:=by
   exact eo aG 8 (S.e_ aG al aP [] (.cons (fY (s:=Instr.build 165 [(0,R k.known.length kR.1),(1,R k.aZ.length wN.1)].toArray) (v:= .agg [R k.known.length kR.1,R k.aZ.length wN.1].toArray) (fun w=>by kernel_rfl)) .nil) fun _ _ _ S cb=>aeg _ _ kR lI wN Hj _ _ _ S j3 e8 (J.symm d79) al cb)
  have RU ac w kR lI cv cD u N β (S:aj Tryz.prog Tryz.f218.ntmps w0 ab u N β (bH.dl [1] [(6,.v (R k.known.length kR.1)),(7,.v (R 0 cv.1)),(9,.v (R k.aZ.length et.aZ.1))] 2 []) ac w) (j3:ad w0 ab u N lI k.known kR) (ba:ad w0 ab u N cD ([]:List aR) cv) (d81:J lI cD) (al:∀b,bt b->N b/\u.heap[b]? =bw.heap[b]? /\¬cD b) (aP:cR bH.aM.length bP β):W 3 (cp 10 [0,1,2,3,4,5,6]) ac w:=by
   refine eo aG 7 ?_
   have amX:k.aZ.length<=4194304:=ae.le (ey.aZ (d:=k) (S.arg hk))
   refine id (S.lK (α:=aR) ba (ey.aZ (d:=k) (S.arg hk)) (fun _ _ h=>h) (by':=16) (d:=10) (lx:=0) (ly:=k.aZ.length) rfl fun ac w N pM uK S up eC d85=>?_)
   have Sw:=fun b h=>(⟨(up b (al b h).1 (al b h).2.2).1,(up b (al b h).1 (al b h).2.2).2.trans (al b h).2.1⟩:_/\_)
   refine ar.de S Sw aP fun bj=>?_
   have d88:=d85 _ d81 j3.sub
   replace j3:=j3.bk d81 up
   clear up d85
   exact S.cX aG [] bj fun _ S=>aeh _ _ pM uK kR lI _ _ _ S eC j3 (J.symm d88) Sw aP
  have aei ac w kR lI u N β (S:aj Tryz.prog Tryz.f218.ntmps w0 ab u N β (bH.dl [1] [(6,.v (R k.known.length kR.1)),(9,.v (R k.aZ.length et.aZ.1))] 2 []) ac w) (j3:ad w0 ab u N lI k.known kR) (al:d_ bt bw N u) (aP:cR bH.aM.length bP β):W 4 (cp 10 [0,1,2,3,5,6]) ac w:=by
   refine eo aG 4 ?_
   refine id (S.fH (α:=aR) (d:=7) (by kernel_rfl) fun ac w N Cp Hm S up Ml d93=>?_)
   have JC:=fun b h=>(⟨(up b (al b h).1).1,(up b (al b h).1).2.trans (al b h).2,d93 b (al b h).1⟩:_/\_/\_)
   refine ar.de S (fun b h=>⟨(JC b h).1,(JC b h).2.1⟩) aP fun bj=>?_
   have d95:=J.w d93 j3.sub
   replace j3:=j3.up up
   clear up d93
   exact S.cX aG [] bj fun _ S=>RU _ _ kR lI Cp Hm _ _ _ S j3 Ml d95 JC aP
  have En ac w b0 bV cv cD u N β (S:aj Tryz.prog Tryz.f218.ntmps w0 ab u N β (bH.dl [1] [(3,.v (R 0 b0.1)),(5,.v (R k.known.length et.known.1)),(7,.v (R 0 cv.1)),(9,.v (R k.aZ.length et.aZ.1))] 2 []) ac w) (ao:ad w0 ab u N bV ([]:List Bool) b0) (ba:ad w0 ab u N cD ([]:List aR) cv) (d97:J bV cD) (al:∀b,bt b->N b/\u.heap[b]? =bw.heap[b]? /\¬bV b/\¬cD b) (aP:cR bH.aM.length bP β):W 4 (cp 10 [0,1,2,4,5,6]) ac w:=by
   refine eo aG 3 ?_
   have amp:k.known.length<=4194304:=ae.le (ey.known (d:=k) (S.arg hk))
   refine id (S.lK (α:=Bool) ao (ey.known (d:=k) (S.arg hk)) (fun _ _ h=>h) (by':=1) (d:=6) (lx:=0) (ly:=k.known.length) rfl fun ac w N rD OC S up BL d101=>?_)
   have Jx:=fun b h=>(⟨(up b (al b h).1 (al b h).2.2.1).1,(up b (al b h).1 (al b h).2.2.1).2.trans (al b h).2.1,(al b h).2.2.2⟩:_/\_/\_)
   refine ar.de S (fun b h=>⟨(Jx b h).1,(Jx b h).2.1⟩) aP fun bj=>?_
   have d104:=d101 _ (J.symm d97) ba.sub
   replace ba:=ba.bk (J.symm d97) up
   clear up d101
   exact S.cX aG [] bj fun _ S=>RU _ _ rD OC cv cD _ _ _ S BL ba (J.symm d104) Jx aP
  have adO ac w b0 bV u N β (S:aj Tryz.prog Tryz.f218.ntmps w0 ab u N β (bH.dl [1] [(3,.v (R 0 b0.1)),(5,.v (R k.known.length et.known.1)),(9,.v (R k.aZ.length et.aZ.1))] 2 []) ac w) (ao:ad w0 ab u N bV ([]:List Bool) b0) (al:∀b,bt b->N b/\u.heap[b]? =bw.heap[b]? /\¬bV b) (aP:cR bH.aM.length bP β):W 5 (cp 10 [0,1,2,5,6]) ac w:=by
   refine gA aG 3 4 ?_ ?_
   ·have ams:k.known.length<=4194304:=ae.le (ey.known (d:=k) (S.arg hk))
    refine id (S.lK (α:=Bool) ao (ey.known (d:=k) (S.arg hk)) (fun _ _ h=>h) (by':=1) (d:=6) (lx:=0) (ly:=k.known.length) rfl fun ac w N ry iu S up BM d109=>?_)
    have Sp:=fun b h=>(⟨(up b (al b h).1 (al b h).2.2).1,(up b (al b h).1 (al b h).2.2).2.trans (al b h).2.1⟩:_/\_)
    refine ar.de S Sp aP fun bj=>?_
    clear up d109
    exact S.cX aG [] bj fun _ S=>aei _ _ ry iu _ _ _ S BM Sp aP
   ·refine id (S.fH (α:=aR) (d:=7) (by kernel_rfl) fun ac w N Vx Od S up tS d115=>?_)
    have Jy:=fun b h=>(⟨(up b (al b h).1).1,(up b (al b h).1).2.trans (al b h).2.1,(al b h).2.2,d115 b (al b h).1⟩:_/\_/\_/\_)
    refine ar.de S (fun b h=>⟨(Jy b h).1,(Jy b h).2.1⟩) aP fun bj=>?_
    have d117:=J.w d115 ao.sub
    replace ao:=ao.up up
    clear up d115
    exact S.cX aG [] bj fun _ S=>En _ _ b0 bV Vx Od _ _ _ S ao tS d117 Jy aP
  have adR ac w cv cD u N β (S:aj Tryz.prog Tryz.f218.ntmps w0 ab u N β (bH.dl [1] [(5,.v (R k.known.length et.known.1)),(7,.v (R 0 cv.1)),(9,.v (R k.aZ.length et.aZ.1))] 2 []) ac w) (ba:ad w0 ab u N cD ([]:List aR) cv) (al:∀b,bt b->N b/\u.heap[b]? =bw.heap[b]? /\¬cD b) (aP:cR bH.aM.length bP β):W 5 (cp 10 [1,2,4,5,6]) ac w:=by
   refine eo aG 0 ?_
   refine id (S.fH (α:=Bool) (d:=3) (by kernel_rfl) fun ac w N ajb GI S up sB d122=>?_)
   have Jz:=fun b h=>(⟨(up b (al b h).1).1,(up b (al b h).1).2.trans (al b h).2.1,d122 b (al b h).1,(al b h).2.2⟩:_/\_/\_/\_)
   refine ar.de S (fun b h=>⟨(Jz b h).1,(Jz b h).2.1⟩) aP fun bj=>?_
   have d124:=J.w d122 ba.sub
   replace ba:=ba.up up
   clear up d122
   exact S.cX aG [] bj fun _ S=>En _ _ ajb GI cv cD _ _ _ S sB ba (J.symm d124) Jz aP
  have al:d_ bt bw bt bw:=fun b h=>⟨h,rfl⟩
  have aP:cR bH.aM.length bP bP:=fun _ _=>rfl
  refine gA aG 0 4 ?_ ?_
  ·refine id (S.fH (α:=Bool) (d:=3) (by kernel_rfl) fun ac w N F3 Og S up wA d128=>?_)
   have JA:=fun b h=>(⟨(up b (al b h).1).1,(up b (al b h).1).2.trans (al b h).2,d128 b (al b h).1⟩:_/\_/\_)
   refine ar.de S (fun b h=>⟨(JA b h).1,(JA b h).2.1⟩) aP fun bj=>?_
   clear up d128
   exact S.cX aG [] bj fun _ S=>adO _ _ F3 Og _ _ _ S wA JA aP
  ·refine id (S.fH (α:=aR) (d:=7) (by kernel_rfl) fun ac w N F5 C5 S up tT d133=>?_)
   have JB:=fun b h=>(⟨(up b (al b h).1).1,(up b (al b h).1).2.trans (al b h).2,d133 b (al b h).1⟩:_/\_/\_)
   refine ar.de S (fun b h=>⟨(JB b h).1,(JB b h).2.1⟩) aP fun bj=>?_
   clear up d133
   exact S.cX aG [] bj fun _ S=>adR _ _ F5 C5 _ _ _ S tT JB aP
 clear S
 rintro ac w ⟨n9,o1,rB,uJ,u,N,β,S,rp,pI,d135⟩
 refine S.ex fun S=>?_
 refine S.bo 2 .nil [GT.val (⟨k.known,k.aZ⟩:bS) (⟨n9,rB⟩:fx)] fun ac w β S=>?_
 have LH:=ma (x:=(⟨k.known,k.aZ⟩:bS)) (p:=(⟨n9,rB⟩:fx)) rp pI d135
 exact cy S (show k=(⟨k.known,k.aZ⟩:bS) by clear S;(first|rfl|simp)) rfl LH
theorem aan (w0:World) (m:aO) (pm:ft) (hm:bQ w0 m pm):Calls Tryz.prog 101 [GT.val m pm].toArray w0 (dw ab w0 (m:aO)):=by
 refine Calls.run ab Tryz.func101 ?_
 intro ac β S
 have J1:m.outer.length<=4194304:=ae.le (aU.outer (d:=m) hm)
 have J0:m.out.length<=4194304:=ae.le (aU.out (d:=m) hm)
 have JY:m.aT.length<=4194304:=ae.le (aU.aT (d:=m) hm)
 have JZ:m.U.length<=4194304:=ae.le (aU.U (d:=m) hm)
 have J2:m.outs.length<=4194304:=ae.le (aU.outs (d:=m) hm)
 have J3:m.tables.length<=4194304:=ae.le (aU.tables (d:=m) hm)
 refine S.go 8 .nil fun ac w β S=>S.gE (α:=aR) (d:=5) fun ac w N af br S up aA d4=>?_
 clear up d4
 have uR:m.outer.length<=4194304:=ae.le (aU.outer (d:=m) (S.arg hm))
 refine S.go 2 .nil fun ac w β S=>S.lG (α:=aR) aA (aU.outer (d:=m) (S.arg hm)) (fun _ _ h=>h) (by':=16) (d:=8) (lx:=0) (ly:=m.outer.length) rfl fun ac w N bM cT S up ao d8=>?_
 clear up d8
 refine S.go 8 .nil fun ac w β S=>S.cJ (r:=m.out) (d:=12) (p4 w m.out pm.out (S.rd (aU.out (d:=m) (S.arg hm)))) fun ac w N eM eh S up bA d13=>?_
 have d14:=J.w d13 ao.sub
 replace ao:=ao.up up
 clear up d13
 refine S.go 6 .nil fun ac w β S=>S.gE (α:=Bool) (d:=14) fun ac w N jj pU S up ev d18=>?_
 have d19:=J.w d18 ao.sub
 have d20:=J.w d18 bA.sub
 replace ao:=ao.up up
 replace bA:=bA.up up
 clear up d18
 have XM:m.aT.length<=4194304:=ae.le (aU.aT (d:=m) (S.arg hm))
 refine S.go 2 .nil fun ac w β S=>S.lG (α:=Bool) ev (aU.aT (d:=m) (S.arg hm)) (fun _ _ h=>h) (by':=1) (d:=17) (lx:=0) (ly:=m.aT.length) rfl fun ac w N c9 fJ S up bb d24=>?_
 have d26:=d24 _ d19 ao.sub
 have d27:=d24 _ d20 bA.sub
 replace ao:=ao.bk d19 up
 replace bA:=bA.bk d20 up
 clear up d24
 refine S.go 8 .nil fun ac w β S=>S.cJ (r:=m.U) (d:=21) (aal w m.U pm.U (S.rd (aU.U (d:=m) (S.arg hm)))) fun ac w N oS xg S up e2 d31=>?_
 have d32:=J.w d31 ao.sub
 have d33:=J.w d31 bA.sub
 have d34:=J.w d31 bb.sub
 replace ao:=ao.up up
 replace bA:=bA.up up
 replace bb:=bb.up up
 clear up d31
 refine S.go 6 .nil fun ac w β S=>S.gE (α:=Int) (d:=23) fun ac w N uh C9 S up iJ d38=>?_
 have d39:=J.w d38 ao.sub
 have d40:=J.w d38 bA.sub
 have d41:=J.w d38 bb.sub
 have d42:=J.w d38 e2.sub
 replace ao:=ao.up up
 replace bA:=bA.up up
 replace bb:=bb.up up
 replace e2:=e2.up up
 clear up d38
 have xw:m.outs.length<=4194304:=ae.le (aU.outs (d:=m) (S.arg hm))
 refine S.go 2 .nil fun ac w β S=>S.lG (α:=Int) iJ (aU.outs (d:=m) (S.arg hm)) (fun _ _ h=>h) (by':=8) (d:=26) (lx:=0) (ly:=m.outs.length) rfl fun ac w N k9 kY S up dO d46=>?_
 have d48:=d46 _ d39 ao.sub
 have d49:=d46 _ d40 bA.sub
 have d50:=d46 _ d41 bb.sub
 have d51:=d46 _ d42 e2.sub
 replace ao:=ao.bk d39 up
 replace bA:=bA.bk d40 up
 replace bb:=bb.bk d41 up
 replace e2:=e2.bk d42 up
 clear up d46
 refine S.go 6 .nil fun ac w β S=>S.gE (α:=bS) (d:=28) fun ac w N ajq Hh S up qx d55=>?_
 have d56:=J.w d55 ao.sub
 have d57:=J.w d55 bA.sub
 have d58:=J.w d55 bb.sub
 have d59:=J.w d55 e2.sub
 have d60:=J.w d55 dO.sub
 replace ao:=ao.up up
 replace bA:=bA.up up
 replace bb:=bb.up up
 replace e2:=e2.up up
 replace dO:=dO.up up
 clear up d55
 refine S.go 10 .nil fun ac w β S=>?_
 refine c8 (fun a4 ac w=>∃(k:Nat) (acc:List bS) (mO:_) (kZ:_) (u:_) (N:_) (β:_),a4=m.tables.length-k/\(k<=m.tables.length)/\(acc=m.tables.take k)/\aj Tryz.prog Tryz.f101.ntmps w0 ab u N β ⟨[(1,.p 0 0),(2,.p 1 0),(3,.v (R acc.length mO.1)),(4,.v (aa (k:Int)))],[[R m.outer.length bM.1,R m.out.length eM.1,R m.aT.length c9.1,R m.U.length oS.1,R m.outs.length k9.1,aa m.aC,aa m.aY,R m.tables.length pm.tables.1,aa m.owned],cg aO]⟩ ac w/\ad w0 ab u N kZ acc mO/\ad w0 ab u N cT m.outer bM/\ad w0 ab u N eh m.out eM/\ad w0 ab u N fJ m.aT c9/\ad w0 ab u N xg m.U oS/\ad w0 ab u N kY m.outs k9/\J kZ cT/\J kZ eh/\J kZ fJ/\J kZ xg/\J kZ kY) _ ⟨0,([]:List bS),ajq,Hh,_,_,_,rfl,cw,(by simp),S.z,qx,ao,bA,bb,e2,dO,(J.symm d56),(J.symm d57),(J.symm d58),(J.symm d59),(J.symm d60)⟩ ?_
 clear S bA bb e2 dO qx ao
 rintro f69 a4 aeI ac w ⟨k,acc,mO,kZ,u,N,β,rfl,hk,bz,S,iX,ao,bA,bb,e2,dO,d64,d65,d66,d67,d68⟩
 refine S.rs fun S=>?_
 have gI:acc.length=k:=by rw [bz];simp;omega
 refine S.aI 10 .nil (decide ((k:Int)<(m.tables.length:Int))) (fun ac w β AF Au S=>?_) (fun ac w β AF Au S=>?_)
 ·refine S.go 12 (.cons (b5 (aU.tables (d:=m) (S.arg hm)) k Tryz.underlying72) (.cons (dz (aU.tables (d:=m) (S.arg hm)) 165 k) .nil)) fun ac w β S=>S.cJ (r:=(el m.tables k)) (d:=42) (DO w (el m.tables k) (pm.tables.2 k) (S.rd (ae.el (aU.tables (d:=m) (S.arg hm)) k (by omega)))) fun ac w N VM Df S up n2 d76=>?_
  have d77:=J.w d76 iX.sub
  have d78:=J.w d76 ao.sub
  have d79:=J.w d76 bA.sub
  have d80:=J.w d76 bb.sub
  have d81:=J.w d76 e2.sub
  have d82:=J.w d76 dO.sub
  replace iX:=iX.up up
  replace ao:=ao.up up
  replace bA:=bA.up up
  replace bb:=bb.up up
  replace e2:=e2.up up
  replace dO:=dO.up up
  clear up d76
  refine S.h3 (α:=bS) (x:=(el m.tables k)) (p:=VM) n2.own n2.sub n2.dM (d:=43) fun ac w N VO OB S up sJ d86=>?_
  have d87:=d86 _ d77 iX.sub
  have d88:=d86 _ d78 ao.sub
  have d89:=d86 _ d79 bA.sub
  have d90:=d86 _ d80 bb.sub
  have d91:=d86 _ d81 e2.sub
  have d92:=d86 _ d82 dO.sub
  replace iX:=iX.up up
  replace ao:=ao.up up
  replace bA:=bA.up up
  replace bb:=bb.up up
  replace e2:=e2.up up
  replace dO:=dO.up up
  clear up d86
  refine S.w_ (α:=bS) iX sJ d87 (by':=48) (d:=44) (lx:=acc.length) (ly:=1) rfl rfl (show _<=4194304 by simp only [List.length_append,List.length_cons,List.length_nil];omega) fun ac w N VP W7 S up B6 d96=>?_
  have d97:=d96 _ (J.symm d64) d88 ao.sub
  have d98:=d96 _ (J.symm d65) d89 bA.sub
  have d99:=d96 _ (J.symm d66) d90 bb.sub
  have d100:=d96 _ (J.symm d67) d91 e2.sub
  have d101:=d96 _ (J.symm d68) d92 dO.sub
  replace ao:=ao.bk (J.symm d64) up
  replace bA:=bA.bk (J.symm d65) up
  replace bb:=bb.bk (J.symm d66) up
  replace e2:=e2.bk (J.symm d67) up
  replace dO:=dO.bk (J.symm d68) up
  clear up d96
  refine S.ge 9 (.cons (cc (k:Int) 1) .nil) f69 fun ac w β S=>aeI.of (m.tables.length-(k+1)) _ _ (by omega) ⟨k+1,(acc++[(el m.tables k)]),VP,W7,_,_,_,rfl,?_,?_,S.z,B6,ao,bA,bb,e2,dO,(J.symm d97),(J.symm d98),(J.symm d99),(J.symm d100),(J.symm d101)⟩
  ·exact cK
  ·clear S;(first|(rw [jb (by omega),bz];done)|(rw [jb (by omega),bz];simp;done))
 refine S.bo 20 .nil [GT.val (⟨m.outer,m.out,m.aT,m.U,m.outs,m.aC,m.aY,acc,m.owned⟩:aO) (⟨bM,eM,c9,oS,k9,mO⟩:ft)] fun ac w β S=>?_
 have oM:=FO (x:=(⟨m.outer,m.out,m.aT,m.U,m.outs,m.aC,m.aY,acc,m.owned⟩:aO)) (p:=(⟨bM,eM,c9,oS,k9,mO⟩:ft)) ao bA bb e2 dO iX d14 d26 d32 d48 (J.symm d64) d27 d33 d49 (J.symm d65) d34 d50 (J.symm d66) d51 (J.symm d67) (J.symm d68) (aU.aC (d:=m) (S.arg hm)) (aU.aY (d:=m) (S.arg hm)) (aU.owned (d:=m) (S.arg hm))
 exact cy S (show m=(⟨m.outer,m.out,m.aT,m.U,m.outs,m.aC,m.aY,acc,m.owned⟩:aO) by clear S;(first|rfl|(rw [bz,ff (by omega)];done)|(rw [bz,ff (by omega)];simp;done)|simp)) rfl oM
theorem Qj (w0:World) (h:ah) (ai:b_) (aX:bQ w0 h ai):Calls Tryz.prog 28 [GT.val h ai].toArray w0 (dw ab w0 (h:ah)):=by
 refine Calls.run ab Tryz.func28 ?_
 intro ac β S
 have lZ:h.mem.length<=4194304:=ae.le (bu.mem (d:=h) aX)
 have l0:h.I.length<=4194304:=ae.le (bu.I (d:=h) aX)
 have lX:h.buf.length<=4194304:=ae.le (bu.buf (d:=h) aX)
 have lY:h.ag.length<=4194304:=ae.le (bu.ag (d:=h) aX)
 refine S.go 7 .nil fun ac w β S=>?_
 refine dI ?_
 let bH:b3:=⟨[(1,.p 0 0),(2,.p 1 0)],[GT.cells h ai,cg ah]⟩
 obtain⟨bw,bt,bP,S⟩:∃bw bt bP,aj Tryz.prog Tryz.f28.ntmps w0 ab bw bt bP bH ac w:=⟨_,_,_,S.z⟩
 refine me (fun ac w=>∃hL jo jl jz i_ jc u N β,aj Tryz.prog Tryz.f28.ntmps w0 ab u N β (bH.dl [] [(3,.p 2 0)] 3 [(2,[R h.mem.length i_.1,R ([]:List aO).length (GT.cZ (α:=List aO)).1,R h.buf.length hL.1,R h.ag.length jl.1])]) ac w/\ad w0 ab u N jo h.buf hL/\ad w0 ab u N jz h.ag jl/\ad w0 ab u N jc h.mem i_/\J jo jz/\J jo jc/\J jz jc) ?_ ?_
 ·refine S.dR (f:=14) 13 (by kernel_rfl) (by kernel_rfl) fun w S=>?_
  refine S.hm 8 [0,1,4,5,8,9] [] [(6,.v (R h.mem.length ai.mem.1)),(10,.v (R h.buf.length ai.buf.1)),(14,.v (R h.ag.length ai.ag.1))] .nil fun ac S=>?_
  refine ar.mH fun W aG=>?_
  refine ar.mj (l':=cp 14 [0,1,4,5,8,9]) (by kernel_rfl) ?_
  have Jk ac w hL jo jl jz i_ jc u N β (S:aj Tryz.prog Tryz.f28.ntmps w0 ab u N β (bH.dl [] [(3,.p 2 0)] 3 [(2,[R h.mem.length i_.1,R ([]:List aO).length (GT.cZ (α:=List aO)).1,R h.buf.length hL.1,R h.ag.length jl.1])]) ac w) (fV:ad w0 ab u N jo h.buf hL) (gL:ad w0 ab u N jz h.ag jl) (g1:ad w0 ab u N jc h.mem i_) (d240:J jo jz) (d241:J jo jc) (d242:J jz jc):W 0 (cp 14 [0,1,2,3,4,5,6,7,8,9,10,11,12,13]) ac w:=by
   exact mL aG ⟨rfl,hL,jo,jl,jz,i_,jc,_,_,_,S.z,fV,gL,g1,d240,d241,d242⟩
  have AL ac w nz kt nA kX lA ks u N β (S:aj Tryz.prog Tryz.f28.ntmps w0 ab u N β (bH.dl [] [(3,.p 2 0),(16,.v (GT.val (⟨h.mem,([]:List aO),h.buf,h.ag⟩:ah) (⟨lA,(GT.cZ (α:=List aO)),nz,nA⟩:b_)))] 3 [(2,cg ah)]) ac w) (l6:ad w0 ab u N kt h.buf nz) (sF:ad w0 ab u N kX h.ag nA) (wD:ad w0 ab u N ks h.mem lA) (d244:J kt kX) (d245:J kt ks) (d246:J kX ks) (al:d_ bt bw N u) (aP:cR bH.aM.length bP β):W 1 (cp 14 [0,1,2,3,4,5,6,7,8,9,10,11,12]) ac w:=by
   exact eo aG 13 (S.wl aG [] .nil fun _ _ _ S=>Jk _ _ nz kt nA kX lA ks _ _ _ S l6 sF wD d244 d245 d246)
  have Jl ac w nz kt nA kX lA ks u N β (S:aj Tryz.prog Tryz.f28.ntmps w0 ab u N β (bH.dl [] [(16,.v (GT.val (⟨h.mem,([]:List aO),h.buf,h.ag⟩:ah) (⟨lA,(GT.cZ (α:=List aO)),nz,nA⟩:b_)))] 2 []) ac w) (l6:ad w0 ab u N kt h.buf nz) (sF:ad w0 ab u N kX h.ag nA) (wD:ad w0 ab u N ks h.mem lA) (d248:J kt kX) (d249:J kt ks) (d250:J kX ks) (al:d_ bt bw N u) (aP:cR bH.aM.length bP β):W 2 (cp 14 [0,1,2,3,4,5,6,7,8,9,10,11]) ac w:=by
   exact eo aG 12 (S.e_ aG al aP [] .nil fun _ _ _ S cb=>AL _ _ nz kt nA kX lA ks _ _ _ S l6 sF wD d248 d249 d250 al cb)
  have AM ac w dP dX jk jV b0 bV u N β (S:aj Tryz.prog Tryz.f28.ntmps w0 ab u N β (bH.dl [] [(3,.p 2 0),(7,.v (R h.mem.length b0.1)),(11,.v (R h.buf.length dP.1)),(15,.v (R h.ag.length jk.1))] 3 [(2,cg ah)]) ac w) (eC:ad w0 ab u N dX h.buf dP) (qu:ad w0 ab u N jV h.ag jk) (ao:ad w0 ab u N bV h.mem b0) (d252:J dX jV) (d253:J dX bV) (d254:J jV bV) (al:d_ bt bw N u) (aP:cR bH.aM.length bP β):W 2 (cp 14 [0,1,2,3,4,5,6,7,8,9,10,12]) ac w:=by
   exact eo aG 11 (S.e_ aG al aP [] (.cons (fY (s:=Instr.build 31 [(0,R h.mem.length b0.1),(2,R h.buf.length dP.1),(3,R h.ag.length jk.1)].toArray) (v:= .agg [R h.mem.length b0.1,R ([]:List aO).length (GT.cZ (α:=List aO)).1,R h.buf.length dP.1,R h.ag.length jk.1].toArray) (fun w=>by kernel_rfl)) .nil) fun _ _ _ S cb=>AL _ _ dP dX jk jV b0 bV _ _ _ S eC qu ao d252 d253 d254 al cb)
  have Jm ac w dP dX jk jV b0 bV u N β (S:aj Tryz.prog Tryz.f28.ntmps w0 ab u N β (bH.dl [] [(7,.v (R h.mem.length b0.1)),(11,.v (R h.buf.length dP.1)),(15,.v (R h.ag.length jk.1))] 2 []) ac w) (eC:ad w0 ab u N dX h.buf dP) (qu:ad w0 ab u N jV h.ag jk) (ao:ad w0 ab u N bV h.mem b0) (d256:J dX jV) (d257:J dX bV) (d258:J jV bV) (al:d_ bt bw N u) (aP:cR bH.aM.length bP β):W 3 (cp 14 [0,1,2,3,4,5,6,7,8,9,10]) ac w:=by
   exact gA aG 11 12 (S.e_ aG al aP [] (.cons (fY (s:=Instr.build 31 [(0,R h.mem.length b0.1),(2,R h.buf.length dP.1),(3,R h.ag.length jk.1)].toArray) (v:= .agg [R h.mem.length b0.1,R ([]:List aO).length (GT.cZ (α:=List aO)).1,R h.buf.length dP.1,R h.ag.length jk.1].toArray) (fun w=>by kernel_rfl)) .nil) fun _ _ _ S cb=>Jl _ _ dP dX jk jV b0 bV _ _ _ S eC qu ao d256 d257 d258 al cb) (S.e_ aG al aP [] .nil fun _ _ _ S cb=>AM _ _ dP dX jk jV b0 bV _ _ _ S eC qu ao d256 d257 d258 al cb)
  have vp ac w dP dX dd ck b0 bV u N β (S:aj Tryz.prog Tryz.f28.ntmps w0 ab u N β (bH.dl [] [(3,.p 2 0),(7,.v (R h.mem.length b0.1)),(11,.v (R h.buf.length dP.1)),(12,.v (R 0 dd.1)),(14,.v (R h.ag.length ai.ag.1))] 3 [(2,cg ah)]) ac w) (eC:ad w0 ab u N dX h.buf dP) (bb:ad w0 ab u N ck ([]:List aH) dd) (ao:ad w0 ab u N bV h.mem b0) (d260:J dX ck) (d261:J dX bV) (d262:J ck bV) (al:∀b,bt b->N b/\u.heap[b]? =bw.heap[b]? /\¬ck b) (aP:cR bH.aM.length bP β):W 3 (cp 14 [0,1,2,3,4,5,6,7,8,9,12]) ac w:=by
   refine eo aG 10 ?_
   have XN:h.ag.length<=4194304:=ae.le (bu.ag (d:=h) (S.arg aX))
   refine id (S.lK (α:=aH) bb (bu.ag (d:=h) (S.arg aX)) (fun _ _ h=>h) (by':=32) (d:=15) (lx:=0) (ly:=h.ag.length) rfl fun ac w N MM GN S up LM d266=>?_)
   have AZ:=fun b h=>(⟨(up b (al b h).1 (al b h).2.2).1,(up b (al b h).1 (al b h).2.2).2.trans (al b h).2.1⟩:_/\_)
   refine ar.de S AZ aP fun bj=>?_
   have d269:=d266 _ (J.symm d262) ao.sub
   have d270:=d266 _ d260 eC.sub
   replace ao:=ao.bk (J.symm d262) up
   replace eC:=eC.bk d260 up
   clear up d266
   exact S.cX aG [] bj fun _ S=>AM _ _ dP dX MM GN b0 bV _ _ _ S eC LM ao d270 d261 (J.symm d269) AZ aP
  have AN ac w dP dX dd ck b0 bV u N β (S:aj Tryz.prog Tryz.f28.ntmps w0 ab u N β (bH.dl [] [(7,.v (R h.mem.length b0.1)),(11,.v (R h.buf.length dP.1)),(12,.v (R 0 dd.1)),(14,.v (R h.ag.length ai.ag.1))] 2 []) ac w) (eC:ad w0 ab u N dX h.buf dP) (bb:ad w0 ab u N ck ([]:List aH) dd) (ao:ad w0 ab u N bV h.mem b0) (d272:J dX ck) (d273:J dX bV) (d274:J ck bV) (al:∀b,bt b->N b/\u.heap[b]? =bw.heap[b]? /\¬ck b) (aP:cR bH.aM.length bP β):W 4 (cp 14 [0,1,2,3,4,5,6,7,8,9]) ac w:=by
   refine gA aG 10 12 ?_ (S.e_ aG (fun b h=>⟨(al b h).1,(al b h).2.1⟩) aP [] .nil fun _ _ _ S cb=>vp _ _ dP dX dd ck b0 bV _ _ _ S eC bb ao d272 d273 d274 al cb)
   have XP:h.ag.length<=4194304:=ae.le (bu.ag (d:=h) (S.arg aX))
   refine id (S.lK (α:=aH) bb (bu.ag (d:=h) (S.arg aX)) (fun _ _ h=>h) (by':=32) (d:=15) (lx:=0) (ly:=h.ag.length) rfl fun ac w N MN zz S up BW d278=>?_)
   have A0:=fun b h=>(⟨(up b (al b h).1 (al b h).2.2).1,(up b (al b h).1 (al b h).2.2).2.trans (al b h).2.1⟩:_/\_)
   refine ar.de S A0 aP fun bj=>?_
   have d281:=d278 _ (J.symm d274) ao.sub
   have d282:=d278 _ d272 eC.sub
   replace ao:=ao.bk (J.symm d274) up
   replace eC:=eC.bk d272 up
   clear up d278
   exact S.cX aG [] bj fun _ S=>Jm _ _ dP dX MN zz b0 bV _ _ _ S eC BW ao d282 d273 (J.symm d281) A0 aP
  have AO ac w dP dX b0 bV u N β (S:aj Tryz.prog Tryz.f28.ntmps w0 ab u N β (bH.dl [] [(3,.p 2 0),(7,.v (R h.mem.length b0.1)),(11,.v (R h.buf.length dP.1)),(14,.v (R h.ag.length ai.ag.1))] 3 [(2,cg ah)]) ac w) (eC:ad w0 ab u N dX h.buf dP) (ao:ad w0 ab u N bV h.mem b0) (d284:J dX bV) (al:d_ bt bw N u) (aP:cR bH.aM.length bP β):W 4 (cp 14 [0,1,2,3,4,5,6,8,9,12]) ac w:=by
   refine eo aG 7 ?_
   refine id (S.fH (α:=aH) (d:=12) (by kernel_rfl) fun ac w N MO GO S up LN d288=>?_)
   have vw:=fun b h=>(⟨(up b (al b h).1).1,(up b (al b h).1).2.trans (al b h).2,d288 b (al b h).1⟩:_/\_/\_)
   refine ar.de S (fun b h=>⟨(vw b h).1,(vw b h).2.1⟩) aP fun bj=>?_
   have d290:=J.w d288 ao.sub
   have d291:=J.w d288 eC.sub
   replace ao:=ao.up up
   replace eC:=eC.up up
   clear up d288
   exact S.cX aG [] bj fun _ S=>vp _ _ dP dX MO GO b0 bV _ _ _ S eC LN ao d291 d284 (J.symm d290) vw aP
  have sd ac w dd ck b0 bV cv cD u N β (S:aj Tryz.prog Tryz.f28.ntmps w0 ab u N β (bH.dl [] [(3,.p 2 0),(7,.v (R h.mem.length b0.1)),(8,.v (R 0 cv.1)),(10,.v (R h.buf.length ai.buf.1)),(12,.v (R 0 dd.1)),(14,.v (R h.ag.length ai.ag.1))] 3 [(2,cg ah)]) ac w) (bb:ad w0 ab u N ck ([]:List aH) dd) (ao:ad w0 ab u N bV h.mem b0) (ba:ad w0 ab u N cD ([]:List aH) cv) (d293:J ck bV) (d294:J ck cD) (d295:J bV cD) (al:∀b,bt b->N b/\u.heap[b]? =bw.heap[b]? /\¬cD b/\¬ck b) (aP:cR bH.aM.length bP β):W 4 (cp 14 [0,1,2,3,4,5,7,8,9,12]) ac w:=by
   refine eo aG 6 ?_
   have XS:h.buf.length<=4194304:=ae.le (bu.buf (d:=h) (S.arg aX))
   refine id (S.lK (α:=aH) ba (bu.buf (d:=h) (S.arg aX)) (fun _ _ h=>h) (by':=32) (d:=11) (lx:=0) (ly:=h.buf.length) rfl fun ac w N MP GP S up LO d299=>?_)
   have vx:=fun b h=>(⟨(up b (al b h).1 (al b h).2.2.1).1,(up b (al b h).1 (al b h).2.2.1).2.trans (al b h).2.1,(al b h).2.2.2⟩:_/\_/\_)
   refine ar.de S (fun b h=>⟨(vx b h).1,(vx b h).2.1⟩) aP fun bj=>?_
   have d302:=d299 _ d295 ao.sub
   have d303:=d299 _ d294 bb.sub
   replace ao:=ao.bk d295 up
   replace bb:=bb.bk d294 up
   clear up d299
   exact S.cX aG [] bj fun _ S=>vp _ _ MP GP dd ck b0 bV _ _ _ S LO bb ao (J.symm d303) (J.symm d302) d293 vx aP
  have Jo ac w dP dX b0 bV u N β (S:aj Tryz.prog Tryz.f28.ntmps w0 ab u N β (bH.dl [] [(7,.v (R h.mem.length b0.1)),(11,.v (R h.buf.length dP.1)),(14,.v (R h.ag.length ai.ag.1))] 2 []) ac w) (eC:ad w0 ab u N dX h.buf dP) (ao:ad w0 ab u N bV h.mem b0) (d305:J dX bV) (al:d_ bt bw N u) (aP:cR bH.aM.length bP β):W 5 (cp 14 [0,1,2,3,4,5,6,8,9]) ac w:=by
   refine gA aG 7 12 ?_ (S.e_ aG al aP [] .nil fun _ _ _ S cb=>AO _ _ dP dX b0 bV _ _ _ S eC ao d305 al cb)
   refine id (S.fH (α:=aH) (d:=12) (by kernel_rfl) fun ac w N MQ GQ S up LP d309=>?_)
   have vy:=fun b h=>(⟨(up b (al b h).1).1,(up b (al b h).1).2.trans (al b h).2,d309 b (al b h).1⟩:_/\_/\_)
   refine ar.de S (fun b h=>⟨(vy b h).1,(vy b h).2.1⟩) aP fun bj=>?_
   have d311:=J.w d309 ao.sub
   have d312:=J.w d309 eC.sub
   replace ao:=ao.up up
   replace eC:=eC.up up
   clear up d309
   exact S.cX aG [] bj fun _ S=>AN _ _ dP dX MQ GQ b0 bV _ _ _ S eC LP ao d312 d305 (J.symm d311) vy aP
  have vq ac w dd ck b0 bV cv cD u N β (S:aj Tryz.prog Tryz.f28.ntmps w0 ab u N β (bH.dl [] [(7,.v (R h.mem.length b0.1)),(8,.v (R 0 cv.1)),(10,.v (R h.buf.length ai.buf.1)),(12,.v (R 0 dd.1)),(14,.v (R h.ag.length ai.ag.1))] 2 []) ac w) (bb:ad w0 ab u N ck ([]:List aH) dd) (ao:ad w0 ab u N bV h.mem b0) (ba:ad w0 ab u N cD ([]:List aH) cv) (d314:J ck bV) (d315:J ck cD) (d316:J bV cD) (al:∀b,bt b->N b/\u.heap[b]? =bw.heap[b]? /\¬cD b/\¬ck b) (aP:cR bH.aM.length bP β):W 5 (cp 14 [0,1,2,3,4,5,7,8,9]) ac w:=by
   refine gA aG 6 12 ?_ (S.e_ aG (fun b h=>⟨(al b h).1,(al b h).2.1⟩) aP [] .nil fun _ _ _ S cb=>sd _ _ dd ck b0 bV cv cD _ _ _ S bb ao ba d314 d315 d316 al cb)
   have XT:h.buf.length<=4194304:=ae.le (bu.buf (d:=h) (S.arg aX))
   refine id (S.lK (α:=aH) ba (bu.buf (d:=h) (S.arg aX)) (fun _ _ h=>h) (by':=32) (d:=11) (lx:=0) (ly:=h.buf.length) rfl fun ac w N MR GR S up LQ d320=>?_)
   have vz:=fun b h=>(⟨(up b (al b h).1 (al b h).2.2.1).1,(up b (al b h).1 (al b h).2.2.1).2.trans (al b h).2.1,(al b h).2.2.2⟩:_/\_/\_)
   refine ar.de S (fun b h=>⟨(vz b h).1,(vz b h).2.1⟩) aP fun bj=>?_
   have d323:=d320 _ d316 ao.sub
   have d324:=d320 _ d315 bb.sub
   replace ao:=ao.bk d316 up
   replace bb:=bb.bk d315 up
   clear up d320
   exact S.cX aG [] bj fun _ S=>AN _ _ MR GR dd ck b0 bV _ _ _ S LQ bb ao (J.symm d324) (J.symm d323) d314 vz aP
  have vr ac w b0 bV cv cD u N β (S:aj Tryz.prog Tryz.f28.ntmps w0 ab u N β (bH.dl [] [(3,.p 2 0),(7,.v (R h.mem.length b0.1)),(8,.v (R 0 cv.1)),(10,.v (R h.buf.length ai.buf.1)),(14,.v (R h.ag.length ai.ag.1))] 3 [(2,cg ah)]) ac w) (ao:ad w0 ab u N bV h.mem b0) (ba:ad w0 ab u N cD ([]:List aH) cv) (d326:J bV cD) (al:∀b,bt b->N b/\u.heap[b]? =bw.heap[b]? /\¬cD b) (aP:cR bH.aM.length bP β):W 5 (cp 14 [0,1,2,3,4,5,8,9,12]) ac w:=by
   refine gA aG 6 7 ?_ ?_
   ·have XU:h.buf.length<=4194304:=ae.le (bu.buf (d:=h) (S.arg aX))
    refine id (S.lK (α:=aH) ba (bu.buf (d:=h) (S.arg aX)) (fun _ _ h=>h) (by':=32) (d:=11) (lx:=0) (ly:=h.buf.length) rfl fun ac w N MS GS S up LR d330=>?_)
    have A1:=fun b h=>(⟨(up b (al b h).1 (al b h).2.2).1,(up b (al b h).1 (al b h).2.2).2.trans (al b h).2.1⟩:_/\_)
    refine ar.de S A1 aP fun bj=>?_
    have d333:=d330 _ d326 ao.sub
    replace ao:=ao.bk d326 up
    clear up d330
    exact S.cX aG [] bj fun _ S=>AO _ _ MS GS b0 bV _ _ _ S LR ao (J.symm d333) A1 aP
   ·refine id (S.fH (α:=aH) (d:=12) (by kernel_rfl) fun ac w N MT GU S up LS d337=>?_)
    have vA:=fun b h=>(⟨(up b (al b h).1).1,(up b (al b h).1).2.trans (al b h).2.1,(al b h).2.2,d337 b (al b h).1⟩:_/\_/\_/\_)
    refine ar.de S (fun b h=>⟨(vA b h).1,(vA b h).2.1⟩) aP fun bj=>?_
    have d339:=J.w d337 ao.sub
    have d340:=J.w d337 ba.sub
    replace ao:=ao.up up
    replace ba:=ba.up up
    clear up d337
    exact S.cX aG [] bj fun _ S=>sd _ _ MT GU b0 bV cv cD _ _ _ S LS ao ba (J.symm d339) (J.symm d340) d326 vA aP
  have vs ac w dd ck b0 bV u N β (S:aj Tryz.prog Tryz.f28.ntmps w0 ab u N β (bH.dl [] [(3,.p 2 0),(7,.v (R h.mem.length b0.1)),(10,.v (R h.buf.length ai.buf.1)),(12,.v (R 0 dd.1)),(14,.v (R h.ag.length ai.ag.1))] 3 [(2,cg ah)]) ac w) (bb:ad w0 ab u N ck ([]:List aH) dd) (ao:ad w0 ab u N bV h.mem b0) (d342:J ck bV) (al:∀b,bt b->N b/\u.heap[b]? =bw.heap[b]? /\¬ck b) (aP:cR bH.aM.length bP β):W 5 (cp 14 [0,1,2,4,5,7,8,9,12]) ac w:=by
   refine eo aG 3 ?_
   refine id (S.fH (α:=aH) (d:=8) (by kernel_rfl) fun ac w N MU GV S up LU d346=>?_)
   have vB:=fun b h=>(⟨(up b (al b h).1).1,(up b (al b h).1).2.trans (al b h).2.1,d346 b (al b h).1,(al b h).2.2⟩:_/\_/\_/\_)
   refine ar.de S (fun b h=>⟨(vB b h).1,(vB b h).2.1⟩) aP fun bj=>?_
   have d348:=J.w d346 ao.sub
   have d349:=J.w d346 bb.sub
   replace ao:=ao.up up
   replace bb:=bb.up up
   clear up d346
   exact S.cX aG [] bj fun _ S=>sd _ _ dd ck b0 bV MU GV _ _ _ S bb ao LU d342 d349 d348 vB aP
  have vt ac w dd ck cv cD u N β (S:aj Tryz.prog Tryz.f28.ntmps w0 ab u N β (bH.dl [] [(3,.p 2 0),(6,.v (R h.mem.length ai.mem.1)),(8,.v (R 0 cv.1)),(10,.v (R h.buf.length ai.buf.1)),(12,.v (R 0 dd.1)),(14,.v (R h.ag.length ai.ag.1))] 3 [(2,cg ah)]) ac w) (bb:ad w0 ab u N ck ([]:List aH) dd) (ba:ad w0 ab u N cD ([]:List aH) cv) (d351:J ck cD) (al:∀b,bt b->N b/\u.heap[b]? =bw.heap[b]? /\¬cD b/\¬ck b) (aP:cR bH.aM.length bP β):W 5 (cp 14 [0,1,3,4,5,7,8,9,12]) ac w:=by
   refine eo aG 2 ?_
   refine id (S.dB 7 (p4 w h.mem ai.mem (S.rd (bu.mem (d:=h) (S.arg aX)))) fun ac w N MV GW S up LV d355=>?_)
   have vC:=fun b h=>(⟨(up b (al b h).1).1,(up b (al b h).1).2.trans (al b h).2.1,(al b h).2.2.1,(al b h).2.2.2⟩:_/\_/\_/\_)
   refine ar.de S (fun b h=>⟨(vC b h).1,(vC b h).2.1⟩) aP fun bj=>?_
   have d357:=J.w d355 ba.sub
   have d358:=J.w d355 bb.sub
   replace ba:=ba.up up
   replace bb:=bb.up up
   clear up d355
   exact S.cX aG [] bj fun _ S=>sd _ _ dd ck MV GW cv cD _ _ _ S bb LV ba d358 d351 (J.symm d357) vC aP
  have AP ac w b0 bV cv cD u N β (S:aj Tryz.prog Tryz.f28.ntmps w0 ab u N β (bH.dl [] [(7,.v (R h.mem.length b0.1)),(8,.v (R 0 cv.1)),(10,.v (R h.buf.length ai.buf.1)),(14,.v (R h.ag.length ai.ag.1))] 2 []) ac w) (ao:ad w0 ab u N bV h.mem b0) (ba:ad w0 ab u N cD ([]:List aH) cv) (d360:J bV cD) (al:∀b,bt b->N b/\u.heap[b]? =bw.heap[b]? /\¬cD b) (aP:cR bH.aM.length bP β):W 6 (cp 14 [0,1,2,3,4,5,8,9]) ac w:=by
   refine rr aG 6 7 12 ?_ ?_ (S.e_ aG (fun b h=>⟨(al b h).1,(al b h).2.1⟩) aP [] .nil fun _ _ _ S cb=>vr _ _ b0 bV cv cD _ _ _ S ao ba d360 al cb)
   ·have XW:h.buf.length<=4194304:=ae.le (bu.buf (d:=h) (S.arg aX))
    refine id (S.lK (α:=aH) ba (bu.buf (d:=h) (S.arg aX)) (fun _ _ h=>h) (by':=32) (d:=11) (lx:=0) (ly:=h.buf.length) rfl fun ac w N MW GX S up LW d364=>?_)
    have A2:=fun b h=>(⟨(up b (al b h).1 (al b h).2.2).1,(up b (al b h).1 (al b h).2.2).2.trans (al b h).2.1⟩:_/\_)
    refine ar.de S A2 aP fun bj=>?_
    have HU:=d364 _ d360 ao.sub
    replace ao:=ao.bk d360 up
    clear up d364
    exact S.cX aG [] bj fun _ S=>Jo _ _ MW GX b0 bV _ _ _ S LW ao (J.symm HU) A2 aP
   ·refine id (S.fH (α:=aH) (d:=12) (by kernel_rfl) fun ac w N MX GY S up LX rW=>?_)
    have vD:=fun b h=>(⟨(up b (al b h).1).1,(up b (al b h).1).2.trans (al b h).2.1,(al b h).2.2,rW b (al b h).1⟩:_/\_/\_/\_)
    refine ar.de S (fun b h=>⟨(vD b h).1,(vD b h).2.1⟩) aP fun bj=>?_
    have HV:=J.w rW ao.sub
    have HW:=J.w rW ba.sub
    replace ao:=ao.up up
    replace ba:=ba.up up
    clear up rW
    exact S.cX aG [] bj fun _ S=>vq _ _ MX GY b0 bV cv cD _ _ _ S LX ao ba (J.symm HV) (J.symm HW) d360 vD aP
  have AQ ac w dd ck b0 bV u N β (S:aj Tryz.prog Tryz.f28.ntmps w0 ab u N β (bH.dl [] [(7,.v (R h.mem.length b0.1)),(10,.v (R h.buf.length ai.buf.1)),(12,.v (R 0 dd.1)),(14,.v (R h.ag.length ai.ag.1))] 2 []) ac w) (bb:ad w0 ab u N ck ([]:List aH) dd) (ao:ad w0 ab u N bV h.mem b0) (rX:J ck bV) (al:∀b,bt b->N b/\u.heap[b]? =bw.heap[b]? /\¬ck b) (aP:cR bH.aM.length bP β):W 6 (cp 14 [0,1,2,4,5,7,8,9]) ac w:=by
   refine gA aG 3 12 ?_ (S.e_ aG (fun b h=>⟨(al b h).1,(al b h).2.1⟩) aP [] .nil fun _ _ _ S cb=>vs _ _ dd ck b0 bV _ _ _ S bb ao rX al cb)
   refine id (S.fH (α:=aH) (d:=8) (by kernel_rfl) fun ac w N MY GZ S up LY rY=>?_)
   have vE:=fun b h=>(⟨(up b (al b h).1).1,(up b (al b h).1).2.trans (al b h).2.1,rY b (al b h).1,(al b h).2.2⟩:_/\_/\_/\_)
   refine ar.de S (fun b h=>⟨(vE b h).1,(vE b h).2.1⟩) aP fun bj=>?_
   have rZ:=J.w rY ao.sub
   have HX:=J.w rY bb.sub
   replace ao:=ao.up up
   replace bb:=bb.up up
   clear up rY
   exact S.cX aG [] bj fun _ S=>vq _ _ dd ck b0 bV MY GZ _ _ _ S bb ao LY rX HX rZ vE aP
  have AR ac w b0 bV u N β (S:aj Tryz.prog Tryz.f28.ntmps w0 ab u N β (bH.dl [] [(3,.p 2 0),(7,.v (R h.mem.length b0.1)),(10,.v (R h.buf.length ai.buf.1)),(14,.v (R h.ag.length ai.ag.1))] 3 [(2,cg ah)]) ac w) (ao:ad w0 ab u N bV h.mem b0) (al:d_ bt bw N u) (aP:cR bH.aM.length bP β):W 6 (cp 14 [0,1,2,4,5,8,9,12]) ac w:=by
   refine gA aG 3 7 ?_ ?_
   ·refine id (S.fH (α:=aH) (d:=8) (by kernel_rfl) fun ac w N MZ G0 S up LZ qR=>?_)
    have vF:=fun b h=>(⟨(up b (al b h).1).1,(up b (al b h).1).2.trans (al b h).2,qR b (al b h).1⟩:_/\_/\_)
    refine ar.de S (fun b h=>⟨(vF b h).1,(vF b h).2.1⟩) aP fun bj=>?_
    have z9:=J.w qR ao.sub
    replace ao:=ao.up up
    clear up qR
    exact S.cX aG [] bj fun _ S=>vr _ _ b0 bV MZ G0 _ _ _ S ao LZ z9 vF aP
   ·refine id (S.fH (α:=aH) (d:=12) (by kernel_rfl) fun ac w N M0 Da S up tV uY=>?_)
    have vG:=fun b h=>(⟨(up b (al b h).1).1,(up b (al b h).1).2.trans (al b h).2,uY b (al b h).1⟩:_/\_/\_)
    refine ar.de S (fun b h=>⟨(vG b h).1,(vG b h).2.1⟩) aP fun bj=>?_
    have HY:=J.w uY ao.sub
    replace ao:=ao.up up
    clear up uY
    exact S.cX aG [] bj fun _ S=>vs _ _ M0 Da b0 bV _ _ _ S tV ao (J.symm HY) vG aP
  have AS ac w dd ck cv cD u N β (S:aj Tryz.prog Tryz.f28.ntmps w0 ab u N β (bH.dl [] [(6,.v (R h.mem.length ai.mem.1)),(8,.v (R 0 cv.1)),(10,.v (R h.buf.length ai.buf.1)),(12,.v (R 0 dd.1)),(14,.v (R h.ag.length ai.ag.1))] 2 []) ac w) (bb:ad w0 ab u N ck ([]:List aH) dd) (ba:ad w0 ab u N cD ([]:List aH) cv) (z_:J ck cD) (al:∀b,bt b->N b/\u.heap[b]? =bw.heap[b]? /\¬cD b/\¬ck b) (aP:cR bH.aM.length bP β):W 6 (cp 14 [0,1,3,4,5,7,8,9]) ac w:=by
   refine gA aG 2 12 ?_ (S.e_ aG (fun b h=>⟨(al b h).1,(al b h).2.1⟩) aP [] .nil fun _ _ _ S cb=>vt _ _ dd ck cv cD _ _ _ S bb ba z_ al cb)
   refine id (S.dB 7 (p4 w h.mem ai.mem (S.rd (bu.mem (d:=h) (S.arg aX)))) fun ac w N M1 G1 S up L0 uZ=>?_)
   have vH:=fun b h=>(⟨(up b (al b h).1).1,(up b (al b h).1).2.trans (al b h).2.1,(al b h).2.2.1,(al b h).2.2.2⟩:_/\_/\_/\_)
   refine ar.de S (fun b h=>⟨(vH b h).1,(vH b h).2.1⟩) aP fun bj=>?_
   have HZ:=J.w uZ ba.sub
   have H0:=J.w uZ bb.sub
   replace ba:=ba.up up
   replace bb:=bb.up up
   clear up uZ
   exact S.cX aG [] bj fun _ S=>vq _ _ dd ck M1 G1 cv cD _ _ _ S bb L0 ba H0 z_ (J.symm HZ) vH aP
  have AU ac w cv cD u N β (S:aj Tryz.prog Tryz.f28.ntmps w0 ab u N β (bH.dl [] [(3,.p 2 0),(6,.v (R h.mem.length ai.mem.1)),(8,.v (R 0 cv.1)),(10,.v (R h.buf.length ai.buf.1)),(14,.v (R h.ag.length ai.ag.1))] 3 [(2,cg ah)]) ac w) (ba:ad w0 ab u N cD ([]:List aH) cv) (al:∀b,bt b->N b/\u.heap[b]? =bw.heap[b]? /\¬cD b) (aP:cR bH.aM.length bP β):W 6 (cp 14 [0,1,3,4,5,8,9,12]) ac w:=by
   refine gA aG 2 7 ?_ ?_
   ·refine id (S.dB 7 (p4 w h.mem ai.mem (S.rd (bu.mem (d:=h) (S.arg aX)))) fun ac w N M3 G2 S up L1 u0=>?_)
    have vI:=fun b h=>(⟨(up b (al b h).1).1,(up b (al b h).1).2.trans (al b h).2.1,(al b h).2.2⟩:_/\_/\_)
    refine ar.de S (fun b h=>⟨(vI b h).1,(vI b h).2.1⟩) aP fun bj=>?_
    have H2:=J.w u0 ba.sub
    replace ba:=ba.up up
    clear up u0
    exact S.cX aG [] bj fun _ S=>vr _ _ M3 G2 cv cD _ _ _ S L1 ba (J.symm H2) vI aP
   ·refine id (S.fH (α:=aH) (d:=12) (by kernel_rfl) fun ac w N M4 G3 S up L2 u1=>?_)
    have vJ:=fun b h=>(⟨(up b (al b h).1).1,(up b (al b h).1).2.trans (al b h).2.1,(al b h).2.2,u1 b (al b h).1⟩:_/\_/\_/\_)
    refine ar.de S (fun b h=>⟨(vJ b h).1,(vJ b h).2.1⟩) aP fun bj=>?_
    have H3:=J.w u1 ba.sub
    replace ba:=ba.up up
    clear up u1
    exact S.cX aG [] bj fun _ S=>vt _ _ M4 G3 cv cD _ _ _ S L2 ba (J.symm H3) vJ aP
  have AV ac w dd ck u N β (S:aj Tryz.prog Tryz.f28.ntmps w0 ab u N β (bH.dl [] [(3,.p 2 0),(6,.v (R h.mem.length ai.mem.1)),(10,.v (R h.buf.length ai.buf.1)),(12,.v (R 0 dd.1)),(14,.v (R h.ag.length ai.ag.1))] 3 [(2,cg ah)]) ac w) (bb:ad w0 ab u N ck ([]:List aH) dd) (al:∀b,bt b->N b/\u.heap[b]? =bw.heap[b]? /\¬ck b) (aP:cR bH.aM.length bP β):W 6 (cp 14 [0,1,4,5,7,8,9,12]) ac w:=by
   refine gA aG 2 3 ?_ ?_
   ·refine id (S.dB 7 (p4 w h.mem ai.mem (S.rd (bu.mem (d:=h) (S.arg aX)))) fun ac w N M5 G4 S up L3 Ab=>?_)
    have vK:=fun b h=>(⟨(up b (al b h).1).1,(up b (al b h).1).2.trans (al b h).2.1,(al b h).2.2⟩:_/\_/\_)
    refine ar.de S (fun b h=>⟨(vK b h).1,(vK b h).2.1⟩) aP fun bj=>?_
    have H4:=J.w Ab bb.sub
    replace bb:=bb.up up
    clear up Ab
    exact S.cX aG [] bj fun _ S=>vs _ _ dd ck M5 G4 _ _ _ S bb L3 H4 vK aP
   ·refine id (S.fH (α:=aH) (d:=8) (by kernel_rfl) fun ac w N M6 G5 S up L4 r0=>?_)
    have vL:=fun b h=>(⟨(up b (al b h).1).1,(up b (al b h).1).2.trans (al b h).2.1,r0 b (al b h).1,(al b h).2.2⟩:_/\_/\_/\_)
    refine ar.de S (fun b h=>⟨(vL b h).1,(vL b h).2.1⟩) aP fun bj=>?_
    have H5:=J.w r0 bb.sub
    replace bb:=bb.up up
    clear up r0
    exact S.cX aG [] bj fun _ S=>vt _ _ dd ck M6 G5 _ _ _ S bb L4 H5 vL aP
  have Jq ac w b0 bV u N β (S:aj Tryz.prog Tryz.f28.ntmps w0 ab u N β (bH.dl [] [(7,.v (R h.mem.length b0.1)),(10,.v (R h.buf.length ai.buf.1)),(14,.v (R h.ag.length ai.ag.1))] 2 []) ac w) (ao:ad w0 ab u N bV h.mem b0) (al:d_ bt bw N u) (aP:cR bH.aM.length bP β):W 7 (cp 14 [0,1,2,4,5,8,9]) ac w:=by
   refine rr aG 3 7 12 ?_ ?_ (S.e_ aG al aP [] .nil fun _ _ _ S cb=>AR _ _ b0 bV _ _ _ S ao al cb)
   ·refine id (S.fH (α:=aH) (d:=8) (by kernel_rfl) fun ac w N M7 G6 S up L5 u2=>?_)
    have vM:=fun b h=>(⟨(up b (al b h).1).1,(up b (al b h).1).2.trans (al b h).2,u2 b (al b h).1⟩:_/\_/\_)
    refine ar.de S (fun b h=>⟨(vM b h).1,(vM b h).2.1⟩) aP fun bj=>?_
    have H6:=J.w u2 ao.sub
    replace ao:=ao.up up
    clear up u2
    exact S.cX aG [] bj fun _ S=>AP _ _ b0 bV M7 G6 _ _ _ S ao L5 H6 vM aP
   ·refine id (S.fH (α:=aH) (d:=12) (by kernel_rfl) fun ac w N M8 G7 S up L6 u3=>?_)
    have vN:=fun b h=>(⟨(up b (al b h).1).1,(up b (al b h).1).2.trans (al b h).2,u3 b (al b h).1⟩:_/\_/\_)
    refine ar.de S (fun b h=>⟨(vN b h).1,(vN b h).2.1⟩) aP fun bj=>?_
    have H7:=J.w u3 ao.sub
    replace ao:=ao.up up
    clear up u3
    exact S.cX aG [] bj fun _ S=>AQ _ _ M8 G7 b0 bV _ _ _ S L6 ao (J.symm H7) vN aP
  have Jr ac w cv cD u N β (S:aj Tryz.prog Tryz.f28.ntmps w0 ab u N β (bH.dl [] [(6,.v (R h.mem.length ai.mem.1)),(8,.v (R 0 cv.1)),(10,.v (R h.buf.length ai.buf.1)),(14,.v (R h.ag.length ai.ag.1))] 2 []) ac w) (ba:ad w0 ab u N cD ([]:List aH) cv) (al:∀b,bt b->N b/\u.heap[b]? =bw.heap[b]? /\¬cD b) (aP:cR bH.aM.length bP β):W 7 (cp 14 [0,1,3,4,5,8,9]) ac w:=by
   refine rr aG 2 7 12 ?_ ?_ (S.e_ aG (fun b h=>⟨(al b h).1,(al b h).2.1⟩) aP [] .nil fun _ _ _ S cb=>AU _ _ cv cD _ _ _ S ba al cb)
   ·refine id (S.dB 7 (p4 w h.mem ai.mem (S.rd (bu.mem (d:=h) (S.arg aX)))) fun ac w N M9 G8 S up L7 u4=>?_)
    have vO:=fun b h=>(⟨(up b (al b h).1).1,(up b (al b h).1).2.trans (al b h).2.1,(al b h).2.2⟩:_/\_/\_)
    refine ar.de S (fun b h=>⟨(vO b h).1,(vO b h).2.1⟩) aP fun bj=>?_
    have H8:=J.w u4 ba.sub
    replace ba:=ba.up up
    clear up u4
    exact S.cX aG [] bj fun _ S=>AP _ _ M9 G8 cv cD _ _ _ S L7 ba (J.symm H8) vO aP
   ·refine id (S.fH (α:=aH) (d:=12) (by kernel_rfl) fun ac w N M_ G9 S up BY u5=>?_)
    have vP:=fun b h=>(⟨(up b (al b h).1).1,(up b (al b h).1).2.trans (al b h).2.1,(al b h).2.2,u5 b (al b h).1⟩:_/\_/\_/\_)
    refine ar.de S (fun b h=>⟨(vP b h).1,(vP b h).2.1⟩) aP fun bj=>?_
    have H9:=J.w u5 ba.sub
    replace ba:=ba.up up
    clear up u5
    exact S.cX aG [] bj fun _ S=>AS _ _ M_ G9 cv cD _ _ _ S BY ba (J.symm H9) vP aP
  have Js ac w dd ck u N β (S:aj Tryz.prog Tryz.f28.ntmps w0 ab u N β (bH.dl [] [(6,.v (R h.mem.length ai.mem.1)),(10,.v (R h.buf.length ai.buf.1)),(12,.v (R 0 dd.1)),(14,.v (R h.ag.length ai.ag.1))] 2 []) ac w) (bb:ad w0 ab u N ck ([]:List aH) dd) (al:∀b,bt b->N b/\u.heap[b]? =bw.heap[b]? /\¬ck b) (aP:cR bH.aM.length bP β):W 7 (cp 14 [0,1,4,5,7,8,9]) ac w:=by
   refine rr aG 2 3 12 ?_ ?_ (S.e_ aG (fun b h=>⟨(al b h).1,(al b h).2.1⟩) aP [] .nil fun _ _ _ S cb=>AV _ _ dd ck _ _ _ S bb al cb)
   ·refine id (S.dB 7 (p4 w h.mem ai.mem (S.rd (bu.mem (d:=h) (S.arg aX)))) fun ac w N Na G_ S up L8 Ac=>?_)
    have vQ:=fun b h=>(⟨(up b (al b h).1).1,(up b (al b h).1).2.trans (al b h).2.1,(al b h).2.2⟩:_/\_/\_)
    refine ar.de S (fun b h=>⟨(vQ b h).1,(vQ b h).2.1⟩) aP fun bj=>?_
    have H_:=J.w Ac bb.sub
    replace bb:=bb.up up
    clear up Ac
    exact S.cX aG [] bj fun _ S=>AQ _ _ dd ck Na G_ _ _ _ S bb L8 H_ vQ aP
   ·refine id (S.fH (α:=aH) (d:=8) (by kernel_rfl) fun ac w N Nb Ha S up L9 r1=>?_)
    have vR:=fun b h=>(⟨(up b (al b h).1).1,(up b (al b h).1).2.trans (al b h).2.1,r1 b (al b h).1,(al b h).2.2⟩:_/\_/\_/\_)
    refine ar.de S (fun b h=>⟨(vR b h).1,(vR b h).2.1⟩) aP fun bj=>?_
    have Ia:=J.w r1 bb.sub
    replace bb:=bb.up up
    clear up r1
    exact S.cX aG [] bj fun _ S=>AS _ _ dd ck Nb Ha _ _ _ S bb L9 Ia vR aP
  have Jt ac w u N β (S:aj Tryz.prog Tryz.f28.ntmps w0 ab u N β (bH.dl [] [(3,.p 2 0),(6,.v (R h.mem.length ai.mem.1)),(10,.v (R h.buf.length ai.buf.1)),(14,.v (R h.ag.length ai.ag.1))] 3 [(2,cg ah)]) ac w) (al:d_ bt bw N u) (aP:cR bH.aM.length bP β):W 7 (cp 14 [0,1,4,5,8,9,12]) ac w:=by
   refine rr aG 2 3 7 ?_ ?_ ?_
   ·refine id (S.dB 7 (p4 w h.mem ai.mem (S.rd (bu.mem (d:=h) (S.arg aX)))) fun ac w N Nc Hb S up L_ Ib=>?_)
    have A4:=fun b h=>(⟨(up b (al b h).1).1,(up b (al b h).1).2.trans (al b h).2⟩:_/\_)
    refine ar.de S A4 aP fun bj=>?_
    clear up Ib
    exact S.cX aG [] bj fun _ S=>AR _ _ Nc Hb _ _ _ S L_ A4 aP
   ·refine id (S.fH (α:=aH) (d:=8) (by kernel_rfl) fun ac w N Nd Hc S up Ma Ad=>?_)
    have vS:=fun b h=>(⟨(up b (al b h).1).1,(up b (al b h).1).2.trans (al b h).2,Ad b (al b h).1⟩:_/\_/\_)
    refine ar.de S (fun b h=>⟨(vS b h).1,(vS b h).2.1⟩) aP fun bj=>?_
    clear up Ad
    exact S.cX aG [] bj fun _ S=>AU _ _ Nd Hc _ _ _ S Ma vS aP
   ·refine id (S.fH (α:=aH) (d:=12) (by kernel_rfl) fun ac w N Nf Hd S up Mb Ae=>?_)
    have vT:=fun b h=>(⟨(up b (al b h).1).1,(up b (al b h).1).2.trans (al b h).2,Ae b (al b h).1⟩:_/\_/\_)
    refine ar.de S (fun b h=>⟨(vT b h).1,(vT b h).2.1⟩) aP fun bj=>?_
    clear up Ae
    exact S.cX aG [] bj fun _ S=>AV _ _ Nf Hd _ _ _ S Mb vT aP
  have al:d_ bt bw bt bw:=fun b h=>⟨h,rfl⟩
  have aP:cR bH.aM.length bP bP:=fun _ _=>rfl
  refine Va aG 2 3 7 12 ?_ ?_ ?_ (S.e_ aG al aP [] .nil fun _ _ _ S cb=>Jt _ _ _ _ _ S al cb)
  ·refine id (S.dB 7 (p4 w h.mem ai.mem (S.rd (bu.mem (d:=h) (S.arg aX)))) fun ac w N Ng He S up Mc Ic=>?_)
   have A5:=fun b h=>(⟨(up b (al b h).1).1,(up b (al b h).1).2.trans (al b h).2⟩:_/\_)
   refine ar.de S A5 aP fun bj=>?_
   clear up Ic
   exact S.cX aG [] bj fun _ S=>Jq _ _ Ng He _ _ _ S Mc A5 aP
  ·refine id (S.fH (α:=aH) (d:=8) (by kernel_rfl) fun ac w N Nh Hf S up Md Af=>?_)
   have vU:=fun b h=>(⟨(up b (al b h).1).1,(up b (al b h).1).2.trans (al b h).2,Af b (al b h).1⟩:_/\_/\_)
   refine ar.de S (fun b h=>⟨(vU b h).1,(vU b h).2.1⟩) aP fun bj=>?_
   clear up Af
   exact S.cX aG [] bj fun _ S=>Jr _ _ Nh Hf _ _ _ S Md vU aP
  ·refine id (S.fH (α:=aH) (d:=12) (by kernel_rfl) fun ac w N n7 Hg S up Me Ag=>?_)
   have vV:=fun b h=>(⟨(up b (al b h).1).1,(up b (al b h).1).2.trans (al b h).2,Ag b (al b h).1⟩:_/\_/\_)
   refine ar.de S (fun b h=>⟨(vV b h).1,(vV b h).2.1⟩) aP fun bj=>?_
   clear up Ag
   exact S.cX aG [] bj fun _ S=>Js _ _ n7 Hg _ _ _ S Me vV aP
 clear S
 rintro ac w ⟨hL,jo,jl,jz,i_,jc,u,N,β,S,fV,gL,g1,Ie,r2,Ah⟩
 refine S.ex fun S=>?_
 refine S.go 8 .nil fun ac w β S=>?_
 have B2:=S.mI (α:=aO)
 refine c8 (fun a4 ac w=>∃(i:Nat) (acc:List aO) (oU:_) (pV:_) (u:_) (N:_) (β:_),a4=h.I.length-i/\(i<=h.I.length)/\(acc=h.I.take i)/\aj Tryz.prog Tryz.f28.ntmps w0 ab u N β ⟨[(1,.p 0 0),(2,.p 1 0),(3,.p 2 0),(4,.v (aa (i:Int)))],[GT.cells h ai,cg ah,[R h.mem.length i_.1,R acc.length oU.1,R h.buf.length hL.1,R h.ag.length jl.1]]⟩ ac w/\ad w0 ab u N pV acc oU/\ad w0 ab u N jc h.mem i_/\ad w0 ab u N jo h.buf hL/\ad w0 ab u N jz h.ag jl/\J pV jc/\J pV jo/\J pV jz) _ ⟨0,([]:List aO),(GT.cZ (α:=List aO)),ab,_,_,_,rfl,cw,(by rfl),S.z,B2,g1,fV,gL,(J.symm (fun b _ h=>False.elim h)),(J.symm (fun b _ h=>False.elim h)),(J.symm (fun b _ h=>False.elim h))⟩ ?_
 clear S g1 fV gL B2
 rintro IG a4 JL ac w ⟨i,acc,oU,pV,u,N,β,rfl,hi,bz,S,l8,g1,fV,gL,u6,u7,u9⟩
 refine S.rs fun S=>?_
 have gI:acc.length=i:=by rw [bz];simp;omega
 refine S.aI 10 .nil (decide ((i:Int)<(h.I.length:Int))) (fun ac w β Jf IY S=>?_) (fun ac w β Jf IY S=>?_)
 ·refine S.go 5 .nil fun ac w β S=>?_
  refine dI ?_
  refine S.dR (f:=12) 9 (by kernel_rfl) (by kernel_rfl) fun w S=>?_
  refine S.a9 0 [1,0] [] [(24,.p 2 1)] .nil fun ac S=>?_
  refine S.a9 1 [1] [] [(25,.v (R acc.length oU.1))] .nil fun ac S=>?_
  refine S.a9 2 [7,6,5,3,2] [] [(26,.p 0 1)] .nil fun ac S=>?_
  refine S.a9 3 [7,6,5,3] [] [(27,.v (R h.I.length ai.I.1))] .nil fun ac S=>?_
  refine S.a9 4 [7,6,5,4] [] [(28,.v (aa (i:Int)))] .nil fun ac S=>?_
  refine S.a9 5 [7,6,5] [] [(29,.v (bh ai.I.1.b (ai.I.1.off+i*9)))] (.cons (b5 (bu.I (d:=h) (S.arg aX)) i Tryz.underlying28) .nil) fun ac S=>?_
  refine S.a9 6 [7,6] [] [(30,.v (GT.val (el h.I i) (ai.I.2 i)))] (.cons (dz (bu.I (d:=h) (S.arg aX)) 74 i) .nil) fun ac S=>?_
  refine ar.one (i:=7) (by kernel_rfl) ?_
  refine id (S.dB 31 (aan w (el h.I i) (ai.I.2 i) (S.rd (ae.el (bu.I (d:=h) (S.arg aX)) i (by omega)))) fun ac w N Ni W2 S up wG p6=>?_)
  refine ar.next S up (by kernel_rfl) ?_
  have Ig:=J.w p6 l8.sub
  have Ih:=J.w p6 g1.sub
  have Ii:=J.w p6 fV.sub
  have Ij:=J.w p6 gL.sub
  replace l8:=l8.up up
  replace g1:=g1.up up
  replace fV:=fV.up up
  replace gL:=gL.up up
  clear up p6
  refine ar.one (i:=8) (by kernel_rfl) ?_
  refine id (S.p2 (α:=aO) (x:=(el h.I i)) (p:=Ni) wG.own wG.sub wG.dM (d:=32) (by kernel_rfl) fun ac w N ajr W3 S up Mg p7=>?_)
  refine ar.next S up (by kernel_rfl) ?_
  have Ik:=p7 _ Ig l8.sub
  have Il:=p7 _ Ih g1.sub
  have Im:=p7 _ Ii fV.sub
  have Io:=p7 _ Ij gL.sub
  replace l8:=l8.up up
  replace g1:=g1.up up
  replace fV:=fV.up up
  replace gL:=gL.up up
  clear up p7
  refine ar.one (i:=9) (by kernel_rfl) ?_
  refine id (S.Dk (α:=aO) l8 Mg Ik (by':=168) (d:=33) (lx:=acc.length) (ly:=1) rfl rfl (by kernel_rfl) (show _<=4194304 by simp only [List.length_append,List.length_cons,List.length_nil];omega) fun ac w N Ck Hi S up Mh r3=>?_)
  refine ar.last (by kernel_rfl) ?_
  have tf:=r3 _ (J.symm u6) Il g1.sub
  have Ip:=r3 _ (J.symm u7) Im fV.sub
  have Iq:=r3 _ (J.symm u9) Io gL.sub
  replace g1:=g1.bk (J.symm u6) up
  replace fV:=fV.bk (J.symm u7) up
  replace gL:=gL.bk (J.symm u9) up
  clear up r3
  refine S.c_ 10 [] [(34,.p 2 1)] 3 [] .nil fun ac w β S=>?_
  refine S.c_ 11 [] [] 3 [(2,[R h.mem.length i_.1,R (acc++[(el h.I i)]).length Ck.1,R h.buf.length hL.1,R h.ag.length jl.1])] .nil fun ac w β S=>?_
  refine ar.done (by kernel_rfl) ?_ _
  refine S.ex fun S=>?_
  refine S.ge 7 (.cons (cc (i:Int) 1) .nil) IG fun ac w β S=>JL.of (h.I.length-(i+1)) _ _ (by omega) ⟨i+1,(acc++[(el h.I i)]),Ck,Hi,_,_,_,rfl,?_,?_,S.z,Mh,g1,fV,gL,(J.symm tf),(J.symm Ip),(J.symm Iq)⟩
  ·exact cK
  ·clear S;(first|(rw [jb (by omega),bz];done)|(rw [jb (by omega),bz];simp;done))
 refine S.bo 13 .nil [GT.val (⟨h.mem,acc,h.buf,h.ag⟩:ah) (⟨i_,oU,hL,jl⟩:b_)] fun ac w β S=>?_
 have Mi:=fs (x:=(⟨h.mem,acc,h.buf,h.ag⟩:ah)) (p:=(⟨i_,oU,hL,jl⟩:b_)) g1 l8 fV gL (J.symm u6) (J.symm r2) (J.symm Ah) u7 u9 Ie
 exact cy S (show h=(⟨h.mem,acc,h.buf,h.ag⟩:ah) by clear S;(rw [bz,ff (by omega)];first|done|rfl|(simp;done))) rfl Mi
theorem T2 {p:Prop} (h:p:=by clear S;first|rfl|(simp [a3, *];done)|(simp [a3, *];omega)|(simp_all [a3];done)|(simp_all [a3];omega)):p:=h
theorem fE (w0:World) (x:Int) (a:Int) (b:Int):Calls Tryz.prog 103 [aa x,aa a,aa b].toArray w0 (fun e w'=>e= .returned (B (a3 x a b))/\bB ab w0 w'):=by
 refine Calls.run ab Tryz.func103 ?_
 intro ac β S
 refine S.aI 11 .nil (decide (x>=a)) (fun ac w β h1 a8 S=>?_) (fun ac w β h1 a8 S=>?_)
 ·exact S.aq 8 .nil [B (decide (x<=b))] (a6 T2)
 exact S.aq 8 .nil [B false] (a6 T2)
theorem HM (w0:World) (cells:List Int) (mb:aD Int) (my:bQ w0 cells mb):Calls Tryz.prog 301 [R cells.length mb.1].toArray w0 (fun e w'=>e= .returned (B (ho cells))/\bB ab w0 w'):=by
 refine Calls.run ab Tryz.func301 ?_
 intro ac β S
 have JX:cells.length<=4194304:=ae.le my
 refine S.go 12 .nil fun ac w β S=>?_
 refine c8 (fun a4 ac w=>∃(k:Nat) (u:_) (N:_) (β:_),a4=cells.length-k/\(k<=cells.length)/\((cells.take k).all (fun v=>a3 v 0 99)=true)/\aj Tryz.prog Tryz.f301.ntmps w0 ab u N β ⟨[(0,.v (R cells.length mb.1)),(3,.v (aa (k:Int)))],[]⟩ ac w) _ ⟨0,_,_,_,rfl,cw,(by simp),S.z⟩ ?_
 clear S
 rintro f1 a4 fm ac w ⟨k,u,N,β,rfl,hk,he,S⟩
 refine S.rs fun S=>?_
 refine S.aI 9 .nil (decide ((k:Int)<(cells.length:Int))) (fun ac w β aF cC S=>?_) (fun ac w β aF cC S=>?_)
 ·refine S.bd 15 (.cons (b5 (S.arg my) k Tryz.underlying38) (.cons (cj (S.arg my) 3 k) (.cons (aE fun w hw=>fE w (el cells k) 0 99) .nil))) (!(a3 (el cells k) 0 99)) (fun ac w β bm S=>?_) (fun ac w β bm S=>?_)
  ·have cS:=cm bm
   have gH:=dn cS
   exact S.aq 7 .nil [B false] (a6 (by clear S;(first|(unfold ho;rw [mi (k:=k) (by omega) (by first|assumption|simp_all)];simp;done)|(unfold ho;rw [eY (by omega) he];simp;done)|(unfold ho;rw [eY (by omega) he];simp [*];done)|(unfold ho;rw [eY (by omega) he];simp;omega))))
  have dc:=b9 bm
  have fF:=cV dc
  refine S.ge 9 (.cons (cc (k:Int) 1) .nil) f1 fun ac w β S=>fm.of (cells.length-(k+1)) _ _ (by omega) ⟨k+1,_,_,_,rfl,?_,?_,S.z⟩
  ·exact cK
  ·clear S;exact pY (by omega) he (by first|assumption|(simp only [g8,a3] at*;simp_all;done)|(simp_all;done)|(simp_all;omega))
 exact S.aq 15 .nil [B ((cells.length:Int)==4)] (a6 (by clear S;(first|(unfold ho;rw [eY (by omega) he];simp;done)|(unfold ho;rw [eY (by omega) he];simp [*];done)|(unfold ho;rw [eY (by omega) he];simp;omega)|(unfold ho;rw [mi (k:=k) (by omega) (by first|assumption|simp_all)];simp;done))))
theorem Z7 (w0:World) (m:List (List Int)) (pm:aD (List Int)) (hm:bQ w0 m pm) (ep:Int):Calls Tryz.prog 219 [R m.length pm.1,aa ep].toArray w0 (fun e w'=>e= .returned (B (ib m ep))/\bB ab w0 w'):=by
 refine Calls.run ab Tryz.func219 ?_
 intro ac β S
 have q6:m.length<=4194304:=ae.le hm
 refine S.go 12 .nil fun ac w β S=>?_
 refine c8 (fun a4 ac w=>∃(k:Nat) (u:_) (N:_) (β:_),a4=m.length-k/\(k<=m.length)/\((m.take k).all ho=true)/\aj Tryz.prog Tryz.f219.ntmps w0 ab u N β ⟨[(0,.v (R m.length pm.1)),(1,.v (aa ep)),(5,.v (aa (k:Int)))],[]⟩ ac w) _ ⟨0,_,_,_,rfl,cw,(by simp),S.z⟩ ?_
 clear S
 rintro f1 a4 fm ac w ⟨k,u,N,β,rfl,hk,he,S⟩
 refine S.rs fun S=>?_
 refine S.aI 9 .nil (decide ((k:Int)<(m.length:Int))) (fun ac w β aF cC S=>?_) (fun ac w β aF cC S=>?_)
 ·refine S.bd 15 (.cons (b5 (S.arg hm) k Tryz.underlying22) (.cons (cj (S.arg hm) 38 k) (.cons (aE fun w hw=>HM w (el m k) (pm.2 k) (bJ (ae.el (S.arg hm) k (by omega)) hw)) .nil))) (!(ho (el m k))) (fun ac w β bm S=>?_) (fun ac w β bm S=>?_)
  ·have cS:=cm bm
   exact S.aq 7 .nil [B false] (a6 (by clear S;(first|(unfold ib;rw [mi (k:=k) (by omega) (by first|assumption|simp_all)];simp;done)|(unfold ib;rw [eY (by omega) he];simp;done)|(unfold ib;rw [eY (by omega) he];simp [*];done)|(unfold ib;rw [eY (by omega) he];simp;omega))))
  have cE:=b9 bm
  refine S.ge 9 (.cons (cc (k:Int) 1) .nil) f1 fun ac w β S=>fm.of (m.length-(k+1)) _ _ (by omega) ⟨k+1,_,_,_,rfl,?_,?_,S.z⟩
  ·exact cK
  ·clear S;exact pY (by omega) he (by first|assumption|(simp only [g8,a3] at*;simp_all;done)|(simp_all;done)|(simp_all;omega))
 exact S.aq 16 .nil [B ((m.length:Int)==ep)] (a6 (by clear S;(first|(unfold ib;rw [eY (by omega) he];simp;done)|(unfold ib;rw [eY (by omega) he];simp [*];done)|(unfold ib;rw [eY (by omega) he];simp;omega)|(unfold ib;rw [mi (k:=k) (by omega) (by first|assumption|simp_all)];simp;done))))
theorem TR {p:Prop} (h:p:=by clear S;(first|(unfold ot;rw [show b.length=i by omega,he];first|rfl|(simp [*];done)|(simp;omega)|(rw [Bool.eq_iff_iff];simp;omega))|(unfold ot;rw [Gc (k:=i) (by omega) (Gc (k:=k) (by omega) (by simp_all<;>fail))];rfl))):p:=h
theorem P5 (w0:World) (b:List aH) (bD:aD aH) (hb:bQ w0 b bD):Calls Tryz.prog 220 [R b.length bD.1].toArray w0 (fun e w'=>e= .returned (B (ot b))/\bB ab w0 w'):=by
 refine Calls.run ab Tryz.func220 ?_
 intro ac β S
 have kG:b.length<=4194304:=ae.le hb
 refine S.go 12 .nil fun ac w β S=>?_
 refine c8 (fun a4 ac w=>∃(i:Nat) (u:_) (N:_) (β:_),a4=b.length-i/\(i<=b.length)/\((List.range i).all (fun i=>(List.range i).all fun k=>!(decide ((el b i).tag=(el b k).tag)&&decide ((el b i).page=(el b k).page)))=true)/\aj Tryz.prog Tryz.f220.ntmps w0 ab u N β ⟨[(0,.v (R b.length bD.1)),(3,.v (aa (i:Int)))],[]⟩ ac w) _ ⟨0,_,_,_,rfl,cw,(by rfl),S.z⟩ ?_
 clear S
 rintro f1 a4 fm ac w ⟨i,u,N,β,rfl,hi,he,S⟩
 refine S.rs fun S=>?_
 refine S.aI 9 .nil (decide ((i:Int)<(b.length:Int))) (fun ac w β aF cC S=>?_) (fun ac w β aF cC S=>?_)
 ·refine S.go 11 .nil fun ac w β S=>?_
  refine c8 (fun a4 ac w=>∃(k:Nat) (u:_) (N:_) (β:_),a4=i-k/\(k<=i)/\((List.range k).all (fun k=>!(decide ((el b i).tag=(el b k).tag)&&decide ((el b i).page=(el b k).page)))=true)/\aj Tryz.prog Tryz.f220.ntmps w0 ab u N β ⟨[(0,.v (R b.length bD.1)),(3,.v (aa (i:Int))),(4,.v (aa (k:Int)))],[]⟩ ac w) _ ⟨0,_,_,_,rfl,cw,(by rfl),S.z⟩ ?_
  clear S
  rintro f5 a4 SI ac w ⟨k,u,N,β,rfl,hk,kF,S⟩
  refine S.rs fun S=>?_
  have abl:k<i->el (b.take i) k=el b k:=fun h=>QU h
  refine S.aI 8 .nil (decide ((k:Int)<(i:Int))) (fun ac w β cE fl S=>?_) (fun ac w β cE fl S=>?_)
  ·refine S.go 6 .nil fun ac w β S=>?_
   refine dI ?_
   rcases Bool.eq_false_or_eq_true ((el b i).tag==(el b k).tag) with ez|ez
   ·have iU:(el b i).tag=(el b k).tag:=eq_of_beq ez
    refine S.oo [(11,true)] (keep:=[0,3,4,39]) (m:=0) (σ':=⟨[(0,.v (R b.length bD.1)),(3,.v (aa (i:Int))),(4,.v (aa (k:Int))),(39,.v (B ((el b i).page==(el b k).page)))],[]⟩) (.cons (b5 (S.arg hb) i Tryz.underlying29) (.cons (cA (S.arg hb) 3 i 0 (aa (el b i).tag)) (.cons (b5 (S.arg hb) k Tryz.underlying29) (.cons (cA (S.arg hb) 3 k 0 (aa (el b k).tag)) (.cons (b5 (S.arg hb) i Tryz.underlying29) (.cons (cA (S.arg hb) 3 i 1 (aa (el b i).page)) (.cons (b5 (S.arg hb) k Tryz.underlying29) (.cons (cA (S.arg hb) 3 k 1 (aa (el b k).page)) .nil)))))))) rfl (by kernel_rfl) (by kernel_rfl) (.cons ez .nil) fun ac w S=>?_
    refine S.ex fun S=>?_
    refine S.aI 1 .nil ((el b i).page==(el b k).page) (fun ac w β eS ie S=>?_) (fun ac w β eS ie S=>?_)
    ·exact S.aq 7 .nil [B false] (a6 TR)
    refine S.ge 9 (.cons (cc (k:Int) 1) .nil) f5 fun ac w β S=>SI.of (i-(k+1)) _ _ (by omega) ⟨k+1,_,_,_,rfl,?_,?_,S.z⟩
    ·exact cK
    ·clear S;(refine rK kF ?_;simp_all)
   ·have hC:¬((el b i).tag=(el b k).tag):=ne_of_beq_false ez
    refine S.oo [(11,false)] (keep:=[0,3,4,39]) (m:=0) (σ':=⟨[(0,.v (R b.length bD.1)),(3,.v (aa (i:Int))),(4,.v (aa (k:Int))),(39,.v (B false))],[]⟩) (.cons (b5 (S.arg hb) i Tryz.underlying29) (.cons (cA (S.arg hb) 3 i 0 (aa (el b i).tag)) (.cons (b5 (S.arg hb) k Tryz.underlying29) (.cons (cA (S.arg hb) 3 k 0 (aa (el b k).tag)) .nil)))) rfl (by kernel_rfl) (by kernel_rfl) (.cons ez .nil) fun ac w S=>?_
    refine S.ex fun S=>?_
    refine S.ge 10 (.cons (cc (k:Int) 1) .nil) f5 fun ac w β S=>SI.of (i-(k+1)) _ _ (by omega) ⟨k+1,_,_,_,rfl,?_,?_,S.z⟩
    ·exact cK
    ·clear S;(refine rK kF ?_;simp_all)
  refine S.ge 12 (.cons (cc (i:Int) 1) .nil) f1 fun ac w β S=>fm.of (b.length-(i+1)) _ _ (by omega) ⟨i+1,_,_,_,rfl,?_,?_,S.z⟩
  ·exact cK
  ·clear S;(refine rK he ?_);(have e:k=i:=(by omega));rw [e] at kF;exact kF
 exact S.aq 15 .nil [B (decide ((b.length:Int)<=6))] (a6 TR)
theorem nK (w0:World):Calls Tryz.prog 263 [].toArray w0 (fun e w'=>e= .returned (GT.val (⟨-1,0⟩:aR) ())/\bB ab w0 w'):=by
 refine Calls.run ab Tryz.func263 ?_
 intro ac β S
 exact S.aq 12 (.cons (fY (s:=Instr.build 111 [(0,aa (-1))].toArray) (v:= .agg [aa (-1),aa 0].toArray) (fun w=>by kernel_rfl)) .nil) [GT.val (⟨(-1),0⟩:aR) ()] (hX (p:=()) (by clear S;first|rfl|(simp [id, *];done)|(simp [id, *];omega)|(simp_all [id];done)|(simp_all [id];omega)))
theorem E7 {p:Prop} (h:p:=by clear S;first|rfl|(simp [g8, *];done)|(simp [g8, *];omega)|(simp_all [g8];done)|(simp_all [g8];omega)):p:=h
theorem aad (w0:World) (s:aR) (ep:Int) (fC:0<=ep) (gU:ep<=1000):Calls Tryz.prog 270 [GT.val s (),aa ep].toArray w0 (fun e w'=>e= .returned (B (g8 s ep))/\bB ab w0 w'):=by
 refine Calls.run ab Tryz.func270 ?_
 intro ac β S
 refine S.go 7 .nil fun ac w β S=>?_
 refine dI ?_
 rcases Bool.eq_false_or_eq_true (decide (s=(⟨-1,0⟩:aR))) with h1|h1
 ·refine S.oo [(3,true)] (keep:=[4]) (m:=0) (σ':=⟨[(4,.v (B true))],[]⟩) (.cons (aE fun w hw=>nK w) (.cons (qG (t:=111) s (⟨-1,0⟩:aR) (by kernel_rfl)) .nil)) rfl (by kernel_rfl) (by kernel_rfl) (.cons h1 .nil) fun ac w S=>?_
  refine S.ex fun S=>?_
  exact S.aq 2 .nil [B true] (a6 E7)
 ·rcases Bool.eq_false_or_eq_true (a3 s.page 0 (ep-1)) with an|an
  ·have b7:=cV an
   rcases Bool.eq_false_or_eq_true (decide (ep>0)) with b1|b1
   ·have dJ:=of_decide_eq_true b1
    refine S.oo [(3,false),(9,true),(13,true)] (keep:=[4]) (m:=0) (σ':=⟨[(4,.v (B (a3 s.bg 1 3)))],[]⟩) (.cons (aE fun w hw=>nK w) (.cons (qG (t:=111) s (⟨-1,0⟩:aR) (by kernel_rfl)) (.cons (hf ep 1) (.cons (aE fun w hw=>fE w s.page 0 (ep-1)) (.cons (aE fun w hw=>fE w s.bg 1 3) .nil))))) rfl (by kernel_rfl) (by kernel_rfl) (.cons h1 (.cons an (.cons b1 .nil))) fun ac w S=>?_
    refine S.ex fun S=>?_
    exact S.aq 2 .nil [B (a3 s.bg 1 3)] (a6 E7)
   ·have c6:=of_decide_eq_false b1
    refine S.oo [(3,false),(9,true),(13,false)] (keep:=[4]) (m:=0) (σ':=⟨[(4,.v (B false))],[]⟩) (.cons (aE fun w hw=>nK w) (.cons (qG (t:=111) s (⟨-1,0⟩:aR) (by kernel_rfl)) (.cons (hf ep 1) (.cons (aE fun w hw=>fE w s.page 0 (ep-1)) .nil)))) rfl (by kernel_rfl) (by kernel_rfl) (.cons h1 (.cons an (.cons b1 .nil))) fun ac w S=>?_
    refine S.ex fun S=>?_
    exact S.aq 2 .nil [B false] (a6 E7)
  ·have gH:=dn an
   refine S.oo [(3,false),(9,false)] (keep:=[4]) (m:=0) (σ':=⟨[(4,.v (B false))],[]⟩) (.cons (aE fun w hw=>nK w) (.cons (qG (t:=111) s (⟨-1,0⟩:aR) (by kernel_rfl)) (.cons (hf ep 1) (.cons (aE fun w hw=>fE w s.page 0 (ep-1)) .nil)))) rfl (by kernel_rfl) (by kernel_rfl) (.cons h1 (.cons an .nil)) fun ac w S=>?_
   refine S.ex fun S=>?_
   exact S.aq 2 .nil [B false] (a6 E7)
theorem HO (w0:World) (t:List aR) (bh:aD aR) (bx:bQ w0 t bh) (size:Int) (ep:Int) (fC:0<=ep) (gU:ep<=1000):Calls Tryz.prog 302 [R t.length bh.1,aa size,aa ep].toArray w0 (fun e w'=>e= .returned (B (gZ t size ep))/\bB ab w0 w'):=by
 refine Calls.run ab Tryz.func302 ?_
 intro ac β S
 have Bh:t.length<=4194304:=ae.le bx
 refine S.go 12 .nil fun ac w β S=>?_
 refine c8 (fun a4 ac w=>∃(k:Nat) (u:_) (N:_) (β:_),a4=t.length-k/\(k<=t.length)/\((t.take k).all (fun s=>g8 s ep)=true)/\aj Tryz.prog Tryz.f302.ntmps w0 ab u N β ⟨[(0,.v (R t.length bh.1)),(1,.v (aa size)),(2,.v (aa ep)),(7,.v (aa (k:Int)))],[]⟩ ac w) _ ⟨0,_,_,_,rfl,cw,(by simp),S.z⟩ ?_
 clear S
 rintro f1 a4 fm ac w ⟨k,u,N,β,rfl,hk,he,S⟩
 refine S.rs fun S=>?_
 refine S.aI 9 .nil (decide ((k:Int)<(t.length:Int))) (fun ac w β aF cC S=>?_) (fun ac w β aF cC S=>?_)
 ·refine S.bd 16 (.cons (b5 (S.arg bx) k Tryz.underlying64) (.cons (dz (S.arg bx) 111 k) (.cons (aE fun w hw=>aad w (el t k) ep (by omega) (by omega)) .nil))) (!(g8 (el t k) ep)) (fun ac w β bm S=>?_) (fun ac w β bm S=>?_)
  ·have cS:=cm bm
   exact S.aq 7 .nil [B false] (a6 (by clear S;(first|(unfold gZ;rw [mi (k:=k) (by omega) (by first|assumption|simp_all)];simp;done)|(unfold gZ;rw [eY (by omega) he];simp;done)|(unfold gZ;rw [eY (by omega) he];simp [*];done)|(unfold gZ;rw [eY (by omega) he];simp;omega))))
  have cE:=b9 bm
  refine S.ge 9 (.cons (cc (k:Int) 1) .nil) f1 fun ac w β S=>fm.of (t.length-(k+1)) _ _ (by omega) ⟨k+1,_,_,_,rfl,?_,?_,S.z⟩
  ·exact cK
  ·clear S;exact pY (by omega) he (by first|assumption|(simp only [g8,a3] at*;simp_all;done)|(simp_all;done)|(simp_all;omega))
 exact S.aq 16 .nil [B ((t.length:Int)==size)] (a6 (by clear S;(first|(unfold gZ;rw [eY (by omega) he];simp;done)|(unfold gZ;rw [eY (by omega) he];simp [*];done)|(unfold gZ;rw [eY (by omega) he];simp;omega)|(unfold gZ;rw [mi (k:=k) (by omega) (by first|assumption|simp_all)];simp;done))))
theorem sx {p:Prop} (h:p:=by clear S;first|rfl|(simp [m6, *];done)|(simp [m6, *];omega)|(simp_all [m6];done)|(simp_all [m6];omega)):p:=h
theorem Z4 (w0:World) (i:da):Calls Tryz.prog 347 [GT.val i ()].toArray w0 (fun e w'=>e= .returned (B (m6 i))/\bB ab w0 w'):=by
 refine Calls.run ab Tryz.func347 ?_
 intro ac β S
 refine S.aI 21 .nil (i.eL==1) (fun ac w β h1 a8 S=>?_) (fun ac w β h1 a8 S=>?_)
 ·exact S.aq 13 (.cons (aE fun w hw=>fE w i.x 0 99) .nil) [B (a3 i.x 0 99)] (a6 sx)
 refine S.aI 7 .nil (i.eL==2) (fun ac w β aF cC S=>?_) (fun ac w β aF cC S=>?_)
 ·exact S.aq 13 (.cons (aE fun w hw=>fE w i.x 0 99) .nil) [B (a3 i.x 0 99)] (a6 sx)
 refine S.aI 7 .nil (i.eL==5) (fun ac w β bm c6 S=>?_) (fun ac w β bm c6 S=>?_)
 ·exact S.aq 13 (.cons (aE fun w hw=>fE w i.x 0 99) .nil) [B (a3 i.x 0 99)] (a6 sx)
 refine S.aI 6 .nil (i.eL==6) (fun ac w β cE fl S=>?_) (fun ac w β cE fl S=>?_)
 ·exact S.aq 10 (.cons (aE fun w hw=>fE w i.x 0 99) .nil) [B (a3 i.x 0 99)] (a6 sx)
 refine S.aI 8 .nil (i.eL==3) (fun ac w β ez iU S=>?_) (fun ac w β ez iU S=>?_)
 ·exact S.aq 13 (.cons (aE fun w hw=>fE w i.x 0 15) .nil) [B (a3 i.x 0 15)] (a6 sx)
 refine S.aI 6 .nil (i.eL==4) (fun ac w β eS ie S=>?_) (fun ac w β eS ie S=>?_)
 ·exact S.aq 10 (.cons (aE fun w hw=>fE w i.x 0 15) .nil) [B (a3 i.x 0 15)] (a6 sx)
 refine S.aI 7 .nil (i.eL==7) (fun ac w β jG nV S=>?_) (fun ac w β jG nV S=>?_)
 ·exact S.aq 10 .nil [B (i.x==0)] (a6 sx)
 refine S.aI 7 .nil (i.eL==8) (fun ac w β oz pn S=>?_) (fun ac w β oz pn S=>?_)
 ·exact S.aq 10 (.cons (aE fun w hw=>fE w i.x 0 11) .nil) [B (a3 i.x 0 11)] (a6 sx)
 exact S.aq 10 .nil [B false] (a6 sx)
theorem aac (w0:World) (p:List da) (pp:aD da) (bC:bQ w0 p pp):Calls Tryz.prog 333 [R p.length pp.1].toArray w0 (fun e w'=>e= .returned (B (kf p))/\bB ab w0 w'):=by
 refine Calls.run ab Tryz.func333 ?_
 intro ac β S
 have J5:p.length<=4194304:=ae.le bC
 refine S.go 12 .nil fun ac w β S=>?_
 refine c8 (fun a4 ac w=>∃(k:Nat) (u:_) (N:_) (β:_),a4=p.length-k/\(k<=p.length)/\((p.take k).all m6=true)/\aj Tryz.prog Tryz.f333.ntmps w0 ab u N β ⟨[(0,.v (R p.length pp.1)),(3,.v (aa (k:Int)))],[]⟩ ac w) _ ⟨0,_,_,_,rfl,cw,(by simp),S.z⟩ ?_
 clear S
 rintro f1 a4 fm ac w ⟨k,u,N,β,rfl,hk,he,S⟩
 refine S.rs fun S=>?_
 refine S.aI 9 .nil (decide ((k:Int)<(p.length:Int))) (fun ac w β aF cC S=>?_) (fun ac w β aF cC S=>?_)
 ·refine S.bd 15 (.cons (b5 (S.arg bC) k Tryz.underlying63) (.cons (dz (S.arg bC) 128 k) (.cons (aE fun w hw=>Z4 w (el p k)) .nil))) (!(m6 (el p k))) (fun ac w β bm S=>?_) (fun ac w β bm S=>?_)
  ·have cS:=cm bm
   exact S.aq 7 .nil [B false] (a6 (by clear S;(first|(unfold kf;rw [mi (k:=k) (by omega) (by first|assumption|simp_all)];simp;done)|(unfold kf;rw [eY (by omega) he];simp;done)|(unfold kf;rw [eY (by omega) he];simp [*];done)|(unfold kf;rw [eY (by omega) he];simp;omega))))
  have cE:=b9 bm
  refine S.ge 9 (.cons (cc (k:Int) 1) .nil) f1 fun ac w β S=>fm.of (p.length-(k+1)) _ _ (by omega) ⟨k+1,_,_,_,rfl,?_,?_,S.z⟩
  ·exact cK
  ·clear S;exact pY (by omega) he (by first|assumption|(simp only [g8,a3] at*;simp_all;done)|(simp_all;done)|(simp_all;omega))
 exact S.aq 15 (.cons (aE fun w hw=>fE w (p.length:Int) 1 12) .nil) [B (a3 (p.length:Int) 1 12)] (a6 (by clear S;(first|(unfold kf;rw [eY (by omega) he];simp;done)|(unfold kf;rw [eY (by omega) he];simp [*];done)|(unfold kf;rw [eY (by omega) he];simp;omega)|(unfold kf;rw [mi (k:=k) (by omega) (by first|assumption|simp_all)];simp;done))))
theorem ZT (w0:World) (c:fy):Calls Tryz.prog 325 [GT.val c ()].toArray w0 (dw ab w0 (m4 c:List Int)):=by
 refine Calls.run ab Tryz.func325 ?_
 intro ac β S
 refine S.go 8 .nil fun ac w β S=>S.gE (α:=Int) (d:=4) fun ac w N af br S up aA d4=>?_
 clear up d4
 refine S.go 12 (.cons (aE fun w hw=>fE w c.aY 0 3) .nil) fun ac w β S=>?_
 refine iw S (fun ac w=>∃(lJ:List Int) (bM:_) (cT:_) (u:_) (N:_) (β:_),(lJ=(if a3 c.aY 0 3 then [] else [1]))/\aj Tryz.prog Tryz.f325.ntmps w0 ab u N β ⟨[(1,.p 0 0),(3,.v (R lJ.length bM.1))],[GT.cells c ()]⟩ ac w/\ad w0 ab u N cT lJ bM) ?_ ?_
 ·clear S;intro S
  refine S.bd 0 .nil (!(a3 c.aY 0 3)) (fun ac w β dc S=>?_) (fun ac w β dc S=>?_)
  ·have ez:=cm dc
   have iU:=dn ez
   refine S.go 3 .nil fun ac w β S=>S.h3 (α:=Int) (x:=1) (p:=()) (F:=ab) (show a_ 1 from⟨by decide,by decide⟩) (fun b h=>False.elim h) (fun b h=>False.elim h) (d:=10) fun ac w N y3 C4 S up jM d14=>?_
   replace aA:=aA.up up
   clear up d14
   refine S.lG (α:=Int) aA jM.ak (fun _ _ h=>h) (by':=8) (d:=11) (lx:=0) (ly:=1) rfl fun ac w N cv cD S up e1 d19=>?_
   clear up d19
   exact S.dG 2 .nil fun ac w β S=>⟨rfl,([1]),cv,cD,_,_,_,(by clear S;(first|(rw [if_pos (by assumption)];simp [*];done)|(rw [if_neg (by simp [*])];simp [*];done)|((repeat' split)<;>first|rfl|(simp;done)|(exfalso;simp_all;done)|(simp_all;done)))),S.z,e1⟩
  have lp:=b9 dc
  have ve:=cV lp
  exact S.dG 2 .nil fun ac w β S=>⟨rfl,([]:List Int),af,br,_,_,_,(by clear S;(first|(rw [if_pos (by assumption)];simp [*];done)|(rw [if_neg (by simp [*])];simp [*];done)|((repeat' split)<;>first|rfl|(simp;done)|(exfalso;simp_all;done)|(simp_all;done)))),S.z,aA⟩
 clear S aA
 rintro ac w ⟨lJ,bM,cT,u,N,β,vv,S,ao⟩
 have aeT:lJ.length<=1:=by rw [vv];(repeat' split)<;>simp
 refine S.ex fun S=>?_
 refine S.go 10 (.cons (aE fun w hw=>fE w c.post 0 255) .nil) fun ac w β S=>?_
 refine iw S (fun ac w=>∃(k1:List Int) (fe:_) (mf:_) (u:_) (N:_) (β:_),(k1=(if a3 c.aY 0 3 then [] else [1])++(if a3 c.post 0 255 then [] else [2]))/\aj Tryz.prog Tryz.f325.ntmps w0 ab u N β ⟨[(1,.p 0 0),(3,.v (R k1.length fe.1))],[GT.cells c ()]⟩ ac w/\ad w0 ab u N mf k1 fe) ?_ ?_
 ·clear S;intro S
  refine S.bd 0 .nil (!(a3 c.post 0 255)) (fun ac w β gS S=>?_) (fun ac w β gS S=>?_)
  ·have lS:=cm gS
   have Aq:=dn lS
   refine S.go 3 .nil fun ac w β S=>S.h3 (α:=Int) (x:=2) (p:=()) (F:=ab) (show a_ 2 from⟨by decide,by decide⟩) (fun b h=>False.elim h) (fun b h=>False.elim h) (d:=17) fun ac w N ug WW S up l7 d32=>?_
   replace ao:=ao.up up
   clear up d32
   refine S.kq (α:=Int) ao l7.ak (fun _ _ h=>h) (by':=8) (d:=18) (lx:=lJ.length) (ly:=1) rfl rfl (show _<=4194304 by simp only [List.length_append,List.length_cons,List.length_nil];omega) fun ac w N jx mg S up e3 d37=>?_
   clear up d37
   exact S.dG 2 .nil fun ac w β S=>⟨rfl,(lJ++[2]),jx,mg,_,_,_,(by clear S;(first|(rw [if_pos (by assumption)];simp [*];done)|(rw [if_neg (by simp [*])];simp [*];done)|(rw [vv];(repeat' split)<;>first|rfl|(simp;done)|(exfalso;simp_all;done)|(simp_all;done)))),S.z,e3⟩
  have q1:=b9 gS
  have Ed:=cV q1
  exact S.dG 2 .nil fun ac w β S=>⟨rfl,lJ,bM,cT,_,_,_,(by clear S;(first|(rw [if_pos (by assumption)];simp [*];done)|(rw [if_neg (by simp [*])];simp [*];done)|(rw [vv];(repeat' split)<;>first|rfl|(simp;done)|(exfalso;simp_all;done)|(simp_all;done)))),S.z,ao⟩
 clear S ao
 rintro ac w ⟨k1,fe,mf,u,N,β,sf,S,dm⟩
 have Bf:k1.length<=2:=by rw [sf];(repeat' split)<;>simp
 refine S.ex fun S=>?_
 refine S.aI 8 .nil (c.post != 0) (fun ac w β pt At S=>?_) (fun ac w β pt At S=>?_)
 ·refine S.go 6 .nil fun ac w β S=>?_
  refine iw S (fun ac w=>∃(gX:List Int) (k9:_) (kY:_) (u:_) (N:_) (β:_),(gX=(if a3 c.aY 0 3 then [] else [1])++(if a3 c.post 0 255 then [] else [2])++(if c.post≠0/\c.e4=false then [3] else []))/\aj Tryz.prog Tryz.f325.ntmps w0 ab u N β ⟨[(1,.p 0 0),(3,.v (R gX.length k9.1))],[GT.cells c ()]⟩ ac w/\ad w0 ab u N kY gX k9) ?_ ?_
  ·clear S;intro S
   refine S.bd 0 .nil (!c.e4) (fun ac w β oA S=>?_) (fun ac w β oA S=>?_)
   ·have r_:=cm oA
    refine S.go 3 .nil fun ac w β S=>S.h3 (α:=Int) (x:=3) (p:=()) (F:=ab) (show a_ 3 from⟨by decide,by decide⟩) (fun b h=>False.elim h) (fun b h=>False.elim h) (d:=28) fun ac w N VI Oy S up B1 d51=>?_
    replace dm:=dm.up up
    clear up d51
    refine S.kq (α:=Int) dm B1.ak (fun _ _ h=>h) (by':=8) (d:=29) (lx:=k1.length) (ly:=1) rfl rfl (show _<=4194304 by simp only [List.length_append,List.length_cons,List.length_nil];omega) fun ac w N n8 nE S up y0 d56=>?_
    clear up d56
    exact S.dG 2 .nil fun ac w β S=>⟨rfl,(k1++[3]),n8,nE,_,_,_,(by clear S;(first|(rw [if_pos (by assumption)];simp [*];done)|(rw [if_neg (by simp [*])];simp [*];done)|(rw [sf];(repeat' split)<;>first|rfl|(simp;done)|(exfalso;simp_all;done)|(simp_all;done)))),S.z,y0⟩
   have vk:=b9 oA
   exact S.dG 2 .nil fun ac w β S=>⟨rfl,k1,fe,mf,_,_,_,(by clear S;(first|(rw [if_pos (by assumption)];simp [*];done)|(rw [if_neg (by simp [*])];simp [*];done)|(rw [sf];(repeat' split)<;>first|rfl|(simp;done)|(exfalso;simp_all;done)|(simp_all;done)))),S.z,dm⟩
  clear S dm
  rintro ac w ⟨gX,k9,kY,u,N,β,nc,S,dO⟩
  have JV:gX.length<=3:=by rw [nc];(repeat' split)<;>simp
  refine S.ex fun S=>?_
  refine S.aI 8 .nil (c.aY==2) (fun ac w β sb Eg S=>?_) (fun ac w β sb Eg S=>?_)
  ·refine S.go 6 .nil fun ac w β S=>?_
   refine iw S (fun ac w=>∃(ek:List Int) (mO:_) (kZ:_) (u:_) (N:_) (β:_),(ek=(if a3 c.aY 0 3 then [] else [1])++(if a3 c.post 0 255 then [] else [2])++(if c.post≠0/\c.e4=false then [3] else [])++(if c.aY=2/\c.post≠0 then [4] else []))/\aj Tryz.prog Tryz.f325.ntmps w0 ab u N β ⟨[(3,.v (R ek.length mO.1))],[]⟩ ac w/\ad w0 ab u N kZ ek mO) ?_ ?_
   ·clear S;intro S
    refine S.lt 37 pt fun S=>?_
    refine S.go 3 .nil fun ac w β S=>S.h3 (α:=Int) (x:=4) (p:=()) (F:=ab) (show a_ 4 from⟨by decide,by decide⟩) (fun b h=>False.elim h) (fun b h=>False.elim h) (d:=39) fun ac w N Cl s6 S up ha d67=>?_
    replace dO:=dO.up up
    clear up d67
    refine S.kq (α:=Int) dO ha.ak (fun _ _ h=>h) (by':=8) (d:=40) (lx:=gX.length) (ly:=1) rfl rfl (show _<=4194304 by simp only [List.length_append,List.length_cons,List.length_nil];omega) fun ac w N n9 o1 S up pI d72=>?_
    clear up d72
    exact S.dG 2 .nil fun ac w β S=>⟨rfl,(gX++[4]),n9,o1,_,_,_,(by clear S;(first|(rw [if_pos (by assumption)];simp [*];done)|(rw [if_neg (by simp [*])];simp [*];done)|(rw [nc];(repeat' split)<;>first|rfl|(simp;done)|(exfalso;simp_all;done)|(simp_all;done)))),S.z,pI⟩
   clear S dO
   rintro ac w ⟨ek,mO,kZ,u,N,β,jI,S,iX⟩
   have v7:ek.length<=4:=by rw [jI];(repeat' split)<;>simp
   refine S.ex fun S=>?_
   refine S.bo 8 .nil [R ek.length mO.1] fun ac w β S=>?_
   exact cy S (show m4 c=ek by clear S;(rw [jI];rfl)) rfl iX
  refine S.go 6 .nil fun ac w β S=>?_
  refine iw S (fun ac w=>∃(ek:List Int) (rC:_) (xl:_) (u:_) (N:_) (β:_),(ek=(if a3 c.aY 0 3 then [] else [1])++(if a3 c.post 0 255 then [] else [2])++(if c.post≠0/\c.e4=false then [3] else [])++(if c.aY=2/\c.post≠0 then [4] else []))/\aj Tryz.prog Tryz.f325.ntmps w0 ab u N β ⟨[(3,.v (R ek.length rC.1))],[]⟩ ac w/\ad w0 ab u N xl ek rC) ?_ ?_
  ·clear S;intro S
   exact S.dG 2 .nil fun ac w β S=>⟨rfl,gX,k9,kY,_,_,_,(by clear S;(first|(rw [if_pos (by assumption)];simp [*];done)|(rw [if_neg (by simp [*])];simp [*];done)|(rw [nc];(repeat' split)<;>first|rfl|(simp;done)|(exfalso;simp_all;done)|(simp_all;done)))),S.z,dO⟩
  clear S dO
  rintro ac w ⟨ek,rC,xl,u,N,β,jI,S,wH⟩
  have v7:ek.length<=4:=by rw [jI];(repeat' split)<;>simp
  refine S.ex fun S=>?_
  refine S.bo 8 .nil [R ek.length rC.1] fun ac w β S=>?_
  exact cy S (show m4 c=ek by clear S;(rw [jI];rfl)) rfl wH
 refine S.go 6 .nil fun ac w β S=>?_
 refine iw S (fun ac w=>∃(gX:List Int) (qA:_) (rN:_) (u:_) (N:_) (β:_),(gX=(if a3 c.aY 0 3 then [] else [1])++(if a3 c.post 0 255 then [] else [2])++(if c.post≠0/\c.e4=false then [3] else []))/\aj Tryz.prog Tryz.f325.ntmps w0 ab u N β ⟨[(1,.p 0 0),(3,.v (R gX.length qA.1))],[GT.cells c ()]⟩ ac w/\ad w0 ab u N rN gX qA) ?_ ?_
 ·clear S;intro S
  exact S.dG 2 .nil fun ac w β S=>⟨rfl,k1,fe,mf,_,_,_,(by clear S;(first|(rw [if_pos (by assumption)];simp [*];done)|(rw [if_neg (by simp [*])];simp [*];done)|(rw [sf];(repeat' split)<;>first|rfl|(simp;done)|(exfalso;simp_all;done)|(simp_all;done)))),S.z,dm⟩
 clear S dm
 rintro ac w ⟨gX,qA,rN,u,N,β,nc,S,sI⟩
 have JV:gX.length<=3:=by rw [nc];(repeat' split)<;>simp
 refine S.ex fun S=>?_
 refine S.aI 8 .nil (c.aY==2) (fun ac w β AH Av S=>?_) (fun ac w β AH Av S=>?_)
 ·refine S.go 6 .nil fun ac w β S=>?_
  refine iw S (fun ac w=>∃(ek:List Int) (pM:_) (uK:_) (u:_) (N:_) (β:_),(ek=(if a3 c.aY 0 3 then [] else [1])++(if a3 c.post 0 255 then [] else [2])++(if c.post≠0/\c.e4=false then [3] else [])++(if c.aY=2/\c.post≠0 then [4] else []))/\aj Tryz.prog Tryz.f325.ntmps w0 ab u N β ⟨[(3,.v (R ek.length pM.1))],[]⟩ ac w/\ad w0 ab u N uK ek pM) ?_ ?_
  ·clear S;intro S
   refine S.lt 37 pt fun S=>?_
   exact S.dG 2 .nil fun ac w β S=>⟨rfl,gX,qA,rN,_,_,_,(by clear S;(first|(rw [if_pos (by assumption)];simp [*];done)|(rw [if_neg (by simp [*])];simp [*];done)|(rw [nc];(repeat' split)<;>first|rfl|(simp;done)|(exfalso;simp_all;done)|(simp_all;done)))),S.z,sI⟩
  clear S sI
  rintro ac w ⟨ek,pM,uK,u,N,β,jI,S,eC⟩
  have v7:ek.length<=4:=by rw [jI];(repeat' split)<;>simp
  refine S.ex fun S=>?_
  refine S.bo 8 .nil [R ek.length pM.1] fun ac w β S=>?_
  exact cy S (show m4 c=ek by clear S;(rw [jI];rfl)) rfl eC
 refine S.go 6 .nil fun ac w β S=>?_
 refine iw S (fun ac w=>∃(ek:List Int) (dP:_) (dX:_) (u:_) (N:_) (β:_),(ek=(if a3 c.aY 0 3 then [] else [1])++(if a3 c.post 0 255 then [] else [2])++(if c.post≠0/\c.e4=false then [3] else [])++(if c.aY=2/\c.post≠0 then [4] else []))/\aj Tryz.prog Tryz.f325.ntmps w0 ab u N β ⟨[(3,.v (R ek.length dP.1))],[]⟩ ac w/\ad w0 ab u N dX ek dP) ?_ ?_
 ·clear S;intro S
  exact S.dG 2 .nil fun ac w β S=>⟨rfl,gX,qA,rN,_,_,_,(by clear S;(first|(rw [if_pos (by assumption)];simp [*];done)|(rw [if_neg (by simp [*])];simp [*];done)|(rw [nc];(repeat' split)<;>first|rfl|(simp;done)|(exfalso;simp_all;done)|(simp_all;done)))),S.z,sI⟩
 clear S sI
 rintro ac w ⟨ek,dP,dX,u,N,β,jI,S,hW⟩
 have v7:ek.length<=4:=by rw [jI];(repeat' split)<;>simp
 refine S.ex fun S=>?_
 refine S.bo 8 .nil [R ek.length dP.1] fun ac w β S=>?_
 exact cy S (show m4 c=ek by clear S;(rw [jI];rfl)) rfl hW
theorem ZU (w0:World) (c:fy):Calls Tryz.prog 276 [GT.val c ()].toArray w0 (fun e w'=>e= .returned (B (m5 c))/\bB ab w0 w'):=by
 refine Calls.run ab Tryz.func276 ?_
 intro ac β S
 refine S.go 9 .nil fun ac w β S=>S.cJ (r:=m4 c) (d:=4) (ZT w c) fun ac w N af br S up aA d4=>?_
 clear up d4
 exact S.aq 6 .nil [B (((m4 c).length:Int)==0)] (a6 (by clear S;first|rfl|(simp [m5, *];done)|(simp [m5, *];omega)|(simp_all [m5];done)|(simp_all [m5];omega)))
theorem HN (w0:World) (p:Int):Calls Tryz.prog 304 [aa p].toArray w0 (fun e w'=>e= .returned (B (a3 p 0 255))/\bB ab w0 w'):=by
 refine Calls.run ab Tryz.func304 ?_
 intro ac β S
 exact S.aq 13 (.cons (aE fun w hw=>fE w p 0 255) .nil) [B (a3 p 0 255)] (a6 (by clear S;first|rfl|(simp [a3, *];done)|(simp [a3, *];omega)|(simp_all [a3];done)|(simp_all [a3];omega)))
theorem qq {p:Prop} (h:p:=by clear S;(unfold va;(repeat' split)<;>first|rfl|(exfalso;simp_all;done)|(exfalso;omega)|(rw [Bool.eq_iff_iff];simp [dg.ext_iff, *];done)|(rw [Bool.eq_iff_iff];simp_all [dg.ext_iff,and_assoc];done)|(rw [Bool.eq_iff_iff];simp_all [dg.ext_iff,and_assoc];omega))):p:=h
theorem ZV (w0:World) (x:dg):Calls Tryz.prog 334 [GT.val x ()].toArray w0 (fun e w'=>e= .returned (B (va x))/\bB ab w0 w'):=by
 refine Calls.run ab Tryz.func334 ?_
 intro ac β S
 refine S.aI 21 .nil (x.kind==0) (fun ac w β h1 a8 S=>?_) (fun ac w β h1 a8 S=>?_)
 ·exact S.aq 15 (.cons (fY (s:=Instr.build 68 [(0,aa x.kind)].toArray) (v:= .agg [aa x.kind,aa 0,B false,aa 0].toArray) (fun w=>by kernel_rfl)) (.cons (C2 (t:=68) x (⟨x.kind,0,false,0⟩:dg) (by kernel_rfl)) .nil)) [B (decide (x=(⟨x.kind,0,false,0⟩:dg)))] (a6 qq)
 refine S.aI 6 .nil (x.kind==4) (fun ac w β aF cC S=>?_) (fun ac w β aF cC S=>?_)
 ·exact S.aq 12 (.cons (fY (s:=Instr.build 68 [(0,aa x.kind)].toArray) (v:= .agg [aa x.kind,aa 0,B false,aa 0].toArray) (fun w=>by kernel_rfl)) (.cons (C2 (t:=68) x (⟨x.kind,0,false,0⟩:dg) (by kernel_rfl)) .nil)) [B (decide (x=(⟨x.kind,0,false,0⟩:dg)))] (a6 qq)
 refine S.aI 7 .nil (x.kind==1) (fun ac w β bm c6 S=>?_) (fun ac w β bm c6 S=>?_)
 ·refine S.bd 7 (.cons (aE fun w hw=>fE w x.page 0 3) .nil) (a3 x.page 0 3) (fun ac w β cE S=>?_) (fun ac w β cE S=>?_)
  ·have fl:=cV cE
   exact S.aq 8 .nil [B (x.n==0)] (a6 qq)
  have fF:=dn cE
  exact S.aq 8 .nil [B false] (a6 qq)
 refine S.aI 8 .nil (x.kind==2) (fun ac w β c2 eb S=>?_) (fun ac w β c2 eb S=>?_)
 ·refine S.bd 10 (.cons (aE fun w hw=>fE w x.n 0 99) .nil) (a3 x.n 0 99) (fun ac w β ec S=>?_) (fun ac w β ec S=>?_)
  ·have hC:=cV ec
   refine S.aI 5 .nil (x.page==0) (fun ac w β ig lP S=>?_) (fun ac w β ig lP S=>?_)
   ·exact S.aq 8 .nil [B (!x.wr)] (a6 qq)
   exact S.aq 8 .nil [B false] (a6 qq)
  have pn:=dn ec
  exact S.aq 13 .nil [B false] (a6 qq)
 refine S.aI 6 .nil (x.kind==3) (fun ac w β jH po S=>?_) (fun ac w β jH po S=>?_)
 ·refine S.bd 7 (.cons (aE fun w hw=>fE w x.n 0 99) .nil) (a3 x.n 0 99) (fun ac w β hU S=>?_) (fun ac w β hU S=>?_)
  ·have m9:=cV hU
   refine S.aI 5 .nil (x.page==0) (fun ac w β lp ve S=>?_) (fun ac w β lp ve S=>?_)
   ·exact S.aq 8 .nil [B (!x.wr)] (a6 qq)
   exact S.aq 8 .nil [B false] (a6 qq)
  have tv:=dn hU
  exact S.aq 13 .nil [B false] (a6 qq)
 exact S.aq 10 .nil [B false] (a6 qq)
theorem sw {p:Prop} (h:p:=by clear S;first|rfl|(simp [kC, *];done)|(simp [kC, *];omega)|(simp_all [kC];done)|(simp_all [kC];omega)):p:=h
theorem Z1 (w0:World) (g:ax) (bf:c5) (aJ:bQ w0 g bf):Calls Tryz.prog 303 [GT.val g bf].toArray w0 (fun e w'=>e= .returned (B (kC g))/\bB ab w0 w'):=by
 refine Calls.run ab Tryz.func303 ?_
 intro ac β S
 have iE:g.prog.length<=4194304:=ae.le (az.prog (d:=g) aJ)
 have iG:g.written.length<=4194304:=ae.le (az.written (d:=g) aJ)
 have iD:g.live.length<=4194304:=ae.le (az.live (d:=g) aJ)
 have iF:g.seen.length<=4194304:=ae.le (az.seen (d:=g) aJ)
 refine S.bd 12 (.cons (aE fun w hw=>aac w g.prog bf.prog (bJ (az.prog (d:=g) (S.arg aJ)) hw)) .nil) (kf g.prog) (fun ac w β h1 S=>?_) (fun ac w β h1 S=>?_)
 ·refine S.bd 5 (.cons (aE fun w hw=>fE w g.acc 0 99) .nil) (a3 g.acc 0 99) (fun ac w β an S=>?_) (fun ac w β an S=>?_)
  ·have b7:=cV an
   refine S.bd 5 (.cons (aE fun w hw=>fE w g.aw 0 12) .nil) (a3 g.aw 0 12) (fun ac w β b1 S=>?_) (fun ac w β b1 S=>?_)
   ·have dJ:=cV b1
    refine S.bd 5 (.cons (aE fun w hw=>HO w g.written bf.written (bJ (az.written (d:=g) (S.arg aJ)) hw) 4 8 (by omega) (by omega)) .nil) (gZ g.written 4 8) (fun ac w β cS S=>?_) (fun ac w β cS S=>?_)
    ·have gH:=w3 cS
     refine S.bd 5 (.cons (aE fun w hw=>HO w g.live bf.live (bJ (az.live (d:=g) (S.arg aJ)) hw) 4 8 (by omega) (by omega)) .nil) (gZ g.live 4 8) (fun ac w β dc S=>?_) (fun ac w β dc S=>?_)
     ·have fF:=w3 dc
      refine S.bd 5 (.cons (aE fun w hw=>ZU w g.aN) .nil) (m5 g.aN) (fun ac w β c2 S=>?_) (fun ac w β c2 S=>?_)
      ·refine S.bd 5 (.cons (aE fun w hw=>HN w g.aC) .nil) (a3 g.aC 0 255) (fun ac w β eS S=>?_) (fun ac w β eS S=>?_)
       ·have ie:=cV eS
        refine S.bd 5 (.cons (aE fun w hw=>ZV w g.exit) .nil) (va g.exit) (fun ac w β jG S=>?_) (fun ac w β jG S=>?_)
        ·exact S.aq 9 .nil [B (decide ((g.seen.length:Int)<=40))] (a6 sw)
        exact S.aq 9 .nil [B false] (a6 sw)
       have nV:=dn eS
       exact S.aq 14 .nil [B false] (a6 sw)
      exact S.aq 19 .nil [B false] (a6 sw)
     exact S.aq 24 .nil [B false] (a6 sw)
    exact S.aq 29 .nil [B false] (a6 sw)
   have lP:=dn b1
   exact S.aq 34 .nil [B false] (a6 sw)
  have pn:=dn an
  exact S.aq 39 .nil [B false] (a6 sw)
 exact S.aq 44 .nil [B false] (a6 sw)
theorem DN (w0:World) (r:Int):Calls Tryz.prog 305 [aa r].toArray w0 (fun e w'=>e= .returned (B (a3 r 0 3))/\bB ab w0 w'):=by
 refine Calls.run ab Tryz.func305 ?_
 intro ac β S
 exact S.aq 13 (.cons (aE fun w hw=>fE w r 0 3) .nil) [B (a3 r 0 3)] (a6 (by clear S;first|rfl|(simp [a3, *];done)|(simp [a3, *];omega)|(simp_all [a3];done)|(simp_all [a3];omega)))
theorem KZ {p:Prop} (h:p:=by clear S;first|rfl|(simp [fj, *];done)|(simp [fj, *];omega)|(simp_all [fj];done)|(simp_all [fj];omega)):p:=h
theorem DM (w0:World) (bg:Int) (need:Int):Calls Tryz.prog 225 [aa bg,aa need].toArray w0 (fun e w'=>e= .returned (B (fj bg need))/\bB ab w0 w'):=by
 refine Calls.run ab Tryz.func225 ?_
 intro ac β S
 refine S.bd 10 (.cons (aE fun w hw=>DN w bg) .nil) (a3 bg 0 3) (fun ac w β h1 S=>?_) (fun ac w β h1 S=>?_)
 ·have a8:=cV h1
  refine S.bd 4 (.cons (aE fun w hw=>DN w need) .nil) (a3 need 0 3) (fun ac w β aF S=>?_) (fun ac w β aF S=>?_)
  ·have cC:=cV aF
   exact S.aq 10 (.cons (qO (x:=bg) (y:=need)) .nil) [B ((jK bg need)==need)] (a6 KZ)
  have dJ:=dn aF
  exact S.aq 10 .nil [B false] (a6 KZ)
 have c6:=dn h1
 exact S.aq 14 .nil [B false] (a6 KZ)
theorem pC {p:Prop} (h:p:=by clear S;(symm;rw [←Bool.not_eq_true];intro hc;simp only [hS,ow,qY,Bool.and_eq_true,decide_eq_true_eq,beq_iff_eq] at hc;first|omega|(simp_all;done)|(simp_all;omega)|(have hx:=s9 (k:=k) hc.1.2 (by omega);simp_all;done)|(have hx:=Gd (k:=j) hc.2 (by omega);unfold nS at hx;split at hx<;>first|(simp_all;done)|(simp_all;omega)))):p:=h
theorem Z8 (w0:World) (m:aO) (pm:ft) (hm:bQ w0 m pm):Calls Tryz.prog 221 [GT.val m pm].toArray w0 (fun e w'=>e= .returned (B (hS m))/\bB ab w0 w'):=by
 refine Calls.run ab Tryz.func221 ?_
 intro ac β S
 have J1:m.outer.length<=4194304:=ae.le (aU.outer (d:=m) hm)
 have J0:m.out.length<=4194304:=ae.le (aU.out (d:=m) hm)
 have JY:m.aT.length<=4194304:=ae.le (aU.aT (d:=m) hm)
 have JZ:m.U.length<=4194304:=ae.le (aU.U (d:=m) hm)
 have J2:m.outs.length<=4194304:=ae.le (aU.outs (d:=m) hm)
 have J3:m.tables.length<=4194304:=ae.le (aU.tables (d:=m) hm)
 refine S.bd 15 (.cons (aE fun w hw=>fE w (m.U.length:Int) 1 2) .nil) (!(a3 (m.U.length:Int) 1 2)) (fun ac w β h1 S=>?_) (fun ac w β h1 S=>?_)
 ·have an:=cm h1
  have b7:=dn an
  exact S.aq 35 .nil [B false] (a6 pC)
 have b1:=b9 h1
 have dJ:=cV b1
 refine S.aI 9 .nil ((m.tables.length:Int) != (m.U.length:Int)) (fun ac w β cS gH S=>?_) (fun ac w β cS gH S=>?_)
 ·exact S.aq 26 .nil [B false] (a6 pC)
 refine S.bd 6 (.cons (aE fun w hw=>HO w m.outer pm.outer (bJ (aU.outer (d:=m) (S.arg hm)) hw) 8 12 (by omega) (by omega)) .nil) (!(gZ m.outer 8 12)) (fun ac w β dc S=>?_) (fun ac w β dc S=>?_)
 ·have ez:=cm dc
  exact S.aq 20 .nil [B false] (a6 pC)
 have c2:=b9 dc
 have eb:=w3 c2
 refine S.aI 6 .nil ((m.out.length:Int) != 8) (fun ac w β ec hC S=>?_) (fun ac w β ec hC S=>?_)
 ·exact S.aq 14 .nil [B false] (a6 pC)
 refine S.aI 7 .nil ((m.aT.length:Int) != 8) (fun ac w β ig lP S=>?_) (fun ac w β ig lP S=>?_)
 ·exact S.aq 7 .nil [B false] (a6 pC)
 refine S.go 10 .nil fun ac w β S=>?_
 refine c8 (fun a4 ac w=>∃(k:Nat) (u:_) (N:_) (β:_),a4=m.U.length-k/\(k<=m.U.length)/\((m.U.take k).all kC=true)/\aj Tryz.prog Tryz.f221.ntmps w0 ab u N β ⟨[(1,.p 0 0),(3,.v (aa (k:Int)))],[GT.cells m pm]⟩ ac w) _ ⟨0,_,_,_,rfl,cw,(by simp),S.z⟩ ?_
 clear S
 rintro f16 a4 aeF ac w ⟨k,u,N,β,rfl,hk,he,S⟩
 refine S.rs fun S=>?_
 refine S.aI 10 .nil (decide ((k:Int)<(m.U.length:Int))) (fun ac w β nX x_ S=>?_) (fun ac w β nX x_ S=>?_)
 ·refine S.bd 16 (.cons (b5 (aU.U (d:=m) (S.arg hm)) k Tryz.underlying71) (.cons (dz (aU.U (d:=m) (S.arg hm)) 70 k) (.cons (aE fun w hw=>Z1 w (el m.U k) (pm.U.2 k) (bJ (ae.el (aU.U (d:=m) (S.arg hm)) k (by omega)) hw)) .nil))) (!(kC (el m.U k))) (fun ac w β hp S=>?_) (fun ac w β hp S=>?_)
  ·have lp:=cm hp
   exact S.aq 7 .nil [B false] (a6 pC)
  have pr:=b9 hp
  refine S.ge 9 (.cons (cc (k:Int) 1) .nil) f16 fun ac w β S=>aeF.of (m.U.length-(k+1)) _ _ (by omega) ⟨k+1,_,_,_,rfl,?_,?_,S.z⟩
  ·exact cK
  ·clear S;exact pY (by omega) he (by first|assumption|(simp only [g8,a3] at*;simp_all;done)|(simp_all;done)|(simp_all;omega))
 refine S.go 13 .nil fun ac w β S=>?_
 refine c8 (fun a4 ac w=>∃(j:Nat) (u:_) (N:_) (β:_),a4=8-j/\(j<=8)/\((List.range j).all (nS m)=true)/\aj Tryz.prog Tryz.f221.ntmps w0 ab u N β ⟨[(1,.p 0 0),(4,.v (aa (j:Int)))],[GT.cells m pm]⟩ ac w) _ ⟨0,_,_,_,rfl,cw,(by rfl),S.z⟩ ?_
 clear S
 rintro f23 a4 SF ac w ⟨j,u,N,β,rfl,bZ,bC,S⟩
 refine S.rs fun S=>?_
 have yC:m.outer.length=8:=by omega
 have ae_:m.out.length=8:=by omega
 refine S.aI 7 .nil (decide ((j:Int)<8)) (fun ac w β yo qe S=>?_) (fun ac w β yo qe S=>?_)
 ·refine S.bd 12 (.cons (b5 (aU.outer (d:=m) (S.arg hm)) j Tryz.underlying64) (.cons (dz (aU.outer (d:=m) (S.arg hm)) 111 j) (.cons (aE fun w hw=>nK w) (.cons (WD (t:=111) (el m.outer j) (⟨-1,0⟩:aR) (by kernel_rfl)) .nil)))) (!decide ((el m.outer j)=(⟨-1,0⟩:aR))) (fun ac w β lS S=>?_) (fun ac w β lS S=>?_)
  ·refine S.lt 5 lS fun S=>?_
   have XQ:(el m.out j).length<=4194304:=ae.le (ae.el (aU.out (d:=m) (S.arg hm)) j (by omega))
   refine S.aI 8 (.cons (b5 (aU.out (d:=m) (S.arg hm)) j Tryz.underlying22) (.cons (cj (aU.out (d:=m) (S.arg hm)) 38 j) .nil)) (decide (((el m.out j).length:Int)>0)) (fun ac w β jf nW S=>?_) (fun ac w β jf nW S=>?_)
   ·exact S.aq 32 .nil [B false] (a6 pC)
   refine S.bd 11 (.cons (b5 (aU.outer (d:=m) (S.arg hm)) j Tryz.underlying64) (.cons (cA (aU.outer (d:=m) (S.arg hm)) 3 j 1 (aa (el m.outer j).bg)) (.cons (aE fun w hw=>DM w (el m.outer j).bg 1) .nil))) (!(fj (el m.outer j).bg 1)) (fun ac w β lT S=>?_) (fun ac w β lT S=>?_)
   ·have ps:=cm lT
    exact S.aq 21 .nil [B false] (a6 pC)
   have m_:=b9 lT
   have r8:=qU m_
   refine S.ge 23 (.cons (cc (j:Int) 1) .nil) f23 fun ac w β S=>SF.of (8-(j+1)) _ _ (by omega) ⟨j+1,_,_,_,rfl,?_,?_,S.z⟩
   ·exact cK
   ·clear S;(refine rK bC ?_;unfold nS;(repeat' split)<;>first|(exfalso;simp_all;done)|(simp_all;done)|(simp_all;omega))
  refine S.lt 5 lS fun S=>?_
  refine S.bd 33 (.cons (b5 (aU.out (d:=m) (S.arg hm)) j Tryz.underlying22) (.cons (cj (aU.out (d:=m) (S.arg hm)) 38 j) (.cons (aE fun w hw=>HM w (el m.out j) (pm.out.2 j) (bJ (ae.el (aU.out (d:=m) (S.arg hm)) j (by omega)) hw)) .nil))) (!(ho (el m.out j))) (fun ac w β kD S=>?_) (fun ac w β kD S=>?_)
  ·have yp:=cm kD
   exact S.aq 7 .nil [B false] (a6 pC)
  have k4:=b9 kD
  refine S.ge 9 (.cons (cc (j:Int) 1) .nil) f23 fun ac w β S=>SF.of (8-(j+1)) _ _ (by omega) ⟨j+1,_,_,_,rfl,?_,?_,S.z⟩
  ·exact cK
  ·clear S;(refine rK bC ?_;unfold nS;(repeat' split)<;>first|(exfalso;simp_all;done)|(simp_all;done)|(simp_all;omega))
 refine S.aI 13 .nil (decide ((m.outs.length:Int)<=40)) (fun ac w β tA As S=>?_) (fun ac w β tA As S=>?_)
 ·refine S.bd 5 (.cons (aE fun w hw=>HN w m.aC) .nil) (a3 m.aC 0 255) (fun ac w β lU S=>?_) (fun ac w β lU S=>?_)
  ·have Rx:=cV lU
   refine S.bd 5 (.cons (aE fun w hw=>fE w m.aY 0 3) .nil) (a3 m.aY 0 3) (fun ac w β na S=>?_) (fun ac w β na S=>?_)
   ·have yc:=cV na
    exact S.aq 8 (.cons (aE fun w hw=>fE w m.owned 0 1000000000) .nil) [B (a3 m.owned 0 1000000000)] (a6 (by clear S;(first|rfl|(symm;rw [←Bool.not_eq_true];intro hc;simp only [hS,ow,qY,Bool.and_eq_true,decide_eq_true_eq,beq_iff_eq] at hc;first|omega|(simp_all;done)|(simp_all;omega)|(have hx:=s9 (k:=k) hc.1.2 (by omega);simp_all;done)|(have hx:=Gd (k:=j) hc.2 (by omega);unfold nS at hx;split at hx<;>first|(simp_all;done)|(simp_all;omega)))|(symm;simp only [hS,ow,qY,Bool.and_eq_true,decide_eq_true_eq,beq_iff_eq];(repeat' apply And.intro);all_goals first|assumption|omega|(simp_all;done)|(simp_all;omega)|(exact eY (by omega) he)|((have kB:j=8:=(by omega));subst kB;exact bC))|(rw [Bool.eq_iff_iff];simp only [hS,ow,qY,Bool.and_eq_true,decide_eq_true_eq,beq_iff_eq];refine⟨fun bp=>?_,fun hc=>?_⟩<;>((repeat' apply And.intro);all_goals first|assumption|omega|(simp_all;done)|(simp_all;omega)|(exact eY (by omega) he)|((have kB:j=8:=(by omega));subst kB;exact bC))))))
   have acL:=dn na
   exact S.aq 8 .nil [B false] (a6 pC)
  have aog:=dn lU
  exact S.aq 13 .nil [B false] (a6 pC)
 exact S.aq 18 .nil [B false] (a6 pC)
theorem wk {p:Prop} (h:p:=by clear S;(first|(symm;rw [←Bool.not_eq_true];intro hc;simp only [eJ,qb,Bool.and_eq_true] at hc;(first|(simp_all;done)|(simp_all;omega)))|(rw [EG (x8 (k:=i) (by omega) CO hu (NT (by assumption)))])|(rw [EG (x8 (k:=i) (by omega) CO hu ((CP v8).trans (x8 (k:=k) (by omega) V9 oJ (NV (by omega) (by assumption)))))])|(unfold eJ tl qb;rw [ff (by omega)] at hu;rw [hu];simp_all;done))):p:=h
theorem Qa (w0:World) (h:ah) (ai:b_) (aX:bQ w0 h ai):Calls Tryz.prog 102 [GT.val h ai].toArray w0 (fun e w'=>e= .returned (B (eJ h))/\bB ab w0 w'):=by
 refine Calls.run ab Tryz.func102 ?_
 intro ac β S
 have lZ:h.mem.length<=4194304:=ae.le (bu.mem (d:=h) aX)
 have l0:h.I.length<=4194304:=ae.le (bu.I (d:=h) aX)
 have lX:h.buf.length<=4194304:=ae.le (bu.buf (d:=h) aX)
 have lY:h.ag.length<=4194304:=ae.le (bu.ag (d:=h) aX)
 refine S.bd 14 (.cons (aE fun w hw=>Z7 w h.mem ai.mem (bJ (bu.mem (d:=h) (S.arg aX)) hw) 12) .nil) (!(ib h.mem 12)) (fun ac w β h1 S=>?_) (fun ac w β h1 S=>?_)
 ·have an:=cm h1
  exact S.aq 27 .nil [B false] (a6 wk)
 have aF:=b9 h1
 refine S.bd 7 (.cons (aE fun w hw=>fE w (h.I.length:Int) 1 3) .nil) (!(a3 (h.I.length:Int) 1 3)) (fun ac w β b1 S=>?_) (fun ac w β b1 S=>?_)
 ·have bm:=cm b1
  have c6:=dn bm
  exact S.aq 20 .nil [B false] (a6 wk)
 have cE:=b9 b1
 have fl:=cV cE
 refine S.bd 6 (.cons (aE fun w hw=>P5 w h.buf ai.buf (bJ (bu.buf (d:=h) (S.arg aX)) hw)) .nil) (!(ot h.buf)) (fun ac w β ez S=>?_) (fun ac w β ez S=>?_)
 ·have c2:=cm ez
  exact S.aq 14 .nil [B false] (a6 wk)
 have eS:=b9 ez
 refine S.bd 7 (.cons (aE fun w hw=>P5 w h.ag ai.ag (bJ (bu.ag (d:=h) (S.arg aX)) hw)) .nil) (!(ot h.ag)) (fun ac w β ec S=>?_) (fun ac w β ec S=>?_)
 ·have jG:=cm ec
  exact S.aq 7 .nil [B false] (a6 wk)
 have ig:=b9 ec
 refine S.go 5 .nil fun ac w β S=>S.mT (α:=Bool) (m:=12) (by':=1) (d:=30) (by omega) (show 12<=4194304 by omega) fun ac w N jj pU S up ev d18=>?_
 clear up d18
 refine S.go 10 .nil fun ac w β S=>?_
 refine c8 (fun a4 ac w=>∃(i:Nat) (us:List Bool) (dy:_) (h4:_) (u:_) (N:_) (β:_),a4=h.I.length-i/\(i<=h.I.length)/\((h.I.take i).foldl pQ (some (List.replicate 12 false))=some us)/\(us.length=12)/\aj Tryz.prog Tryz.f102.ntmps w0 ab u N β ⟨[(1,.p 0 0),(3,.v (R 12 dy.1)),(4,.v (aa (i:Int)))],[GT.cells h ai]⟩ ac w/\ad w0 ab u N h4 us dy) _ ⟨0,(List.replicate 12 (GT.eR:Bool)),jj,pU,_,_,_,rfl,cw,(by rfl),(by rfl),S.z,ev⟩ ?_
 clear S ev
 rintro f22 a4 JK ac w ⟨i,us,dy,h4,u,N,β,rfl,hi,hu,afy,S,il⟩
 refine S.rs fun S=>?_
 refine S.aI 10 .nil (decide ((i:Int)<(h.I.length:Int))) (fun ac w β gR jF S=>?_) (fun ac w β gR jF S=>?_)
 ·refine S.bd 17 (.cons (b5 (bu.I (d:=h) (S.arg aX)) i Tryz.underlying28) (.cons (dz (bu.I (d:=h) (S.arg aX)) 74 i) (.cons (aE fun w hw=>Z8 w (el h.I i) (ai.I.2 i) (bJ (ae.el (bu.I (d:=h) (S.arg aX)) i (by omega)) hw)) .nil))) (!(hS (el h.I i))) (fun ac w β gS S=>?_) (fun ac w β gS S=>?_)
  ·have lS:=cm gS
   exact S.aq 7 .nil [B false] (a6 wk)
  have hD:=b9 gS
  have lQ:=re hD
  refine S.go 9 .nil fun ac w β S=>?_
  refine c8 (fun a4 ac w=>∃(k:Nat) (ko:List Bool) (mN:_) (qI:_) (u:_) (N:_) (β:_),a4=8-k/\(k<=8)/\(((el h.I i).outer.take k).foldl oa (some us)=some ko)/\(ko.length=12)/\aj Tryz.prog Tryz.f102.ntmps w0 ab u N β ⟨[(1,.p 0 0),(3,.v (R 12 mN.1)),(4,.v (aa (i:Int))),(5,.v (aa (k:Int)))],[GT.cells h ai]⟩ ac w/\ad w0 ab u N qI ko mN) _ ⟨0,us,dy,h4,_,_,_,rfl,cw,(by rfl),(by omega),S.z,il⟩ ?_
  clear S il
  rintro f33 a4 Ex ac w ⟨k,ko,mN,qI,u,N,β,rfl,hk,oJ,afz,S,fZ⟩
  refine S.rs fun S=>?_
  have v8:hS (el h.I i)=true:=by assumption
  have wc:=Vs v8 k
  have afe:=(re v8).1
  refine S.aI 7 .nil (decide ((k:Int)<8)) (fun ac w β kD pq S=>?_) (fun ac w β kD pq S=>?_)
  ·refine S.aI 26 (.cons (b5 (bu.I (d:=h) (S.arg aX)) i Tryz.underlying28) (.cons (cA (bu.I (d:=h) (S.arg aX)) 64 i 0 (R (el h.I i).outer.length (ai.I.2 i).outer.1)) (.cons (b5 (aU.outer (d:=(el h.I i)) (ae.el (bu.I (d:=h) (S.arg aX)) i (by omega))) k Tryz.underlying64) (.cons (cA (aU.outer (d:=(el h.I i)) (ae.el (bu.I (d:=h) (S.arg aX)) i (by omega))) 3 k 0 (aa (el (el h.I i).outer k).page)) .nil)))) (decide ((el (el h.I i).outer k).page>=0)) (fun ac w β k4 Rw S=>?_) (fun ac w β k4 Rw S=>?_)
   ·refine S.bd 7 (.cons (eP fZ.ak (l:=12) (k:=(el (el h.I i).outer k).page.toNat) (i:=(el (el h.I i).outer k).page) (by omega) (by omega) (by omega) Tryz.underlying39 (by kernel_rfl)) (.cons (cj fZ.ak 4 ((el (el h.I i).outer k).page.toNat)) .nil)) (el ko (el (el h.I i).outer k).page.toNat) (fun ac w β q1 S=>?_) (fun ac w β q1 S=>?_)
    ·exact S.aq 7 .nil [B false] (a6 wk)
    refine S.go 9 .nil fun ac w β S=>?_
    refine S.lt 68 k4 fun S=>?_
    refine S.go 5 (.cons (eP fZ.ak (l:=12) (k:=(el (el h.I i).outer k).page.toNat) (i:=(el (el h.I i).outer k).page) (by omega) (by omega) (by omega) Tryz.underlying39 (by kernel_rfl)) .nil) fun ac w β S=>S.fQ (α:=Bool) fZ (t:=4) (k:=(el (el h.I i).outer k).page.toNat) (j:=0) (off:=mN.1.off+(el (el h.I i).outer k).page.toNat*1) (v:=B true) (y:=true) (q:=()) (fun _ _ _=>⟨ab,trivial,fun _ h=>False.elim h⟩) fun w N mS nB S up kj d43 ur LC=>?_
    clear up d43 fZ LC
    have agr:(ko.set (el (el h.I i).outer k).page.toNat true).length=ko.length:=List.length_set
    refine S.ge 8 (.cons (cc (k:Int) 1) .nil) f33 fun ac w β S=>Ex.of (8-(k+1)) _ _ (by omega) ⟨k+1,(ko.set (el (el h.I i).outer k).page.toNat true),(mN.1,nB),mS,_,_,_,rfl,?_,?_,?_,S.z,kj⟩
    ·exact cK
    ·clear S;(rw [tt (by omega),oJ];first|exact CQ (by omega)|exact sW (by omega) (by assumption)|exact sW (by omega) (by simp_all))
    ·clear S;(first|omega|(simp;omega))
   refine S.go 16 .nil fun ac w β S=>?_
   refine S.lt 68 k4 fun S=>?_
   refine S.ge 9 (.cons (cc (k:Int) 1) .nil) f33 fun ac w β S=>Ex.of (8-(k+1)) _ _ (by omega) ⟨k+1,ko,mN,qI,_,_,_,rfl,?_,?_,?_,S.z,fZ⟩
   ·exact cK
   ·clear S;(rw [tt (by omega),oJ];first|exact CQ (by omega)|exact sW (by omega) (by assumption)|exact sW (by omega) (by simp_all))
   ·clear S;(first|omega|(simp;omega))
  refine S.ge 12 (.cons (cc (i:Int) 1) .nil) f22 fun ac w β S=>JK.of (h.I.length-(i+1)) _ _ (by omega) ⟨i+1,ko,mN,qI,_,_,_,rfl,?_,?_,?_,S.z,fZ⟩
  ·exact cK
  ·clear S;(rw [tt (by omega),hu,CP (by assumption)];rw [ff (by omega)] at oJ;exact oJ)
  ·clear S;omega
 exact S.aq 12 .nil [B true] (a6 wk)
theorem K6 {p:Prop} (h:p:=by clear S;(unfold mr;first|rfl|(simp_all;done))):p:=h
theorem aas (w0:World) (h:ah) (ai:b_) (aX:bQ w0 h ai) (m:Int) (g:Int):Calls Tryz.prog 29 [GT.val h ai,aa m,aa g].toArray w0 (fun e w'=>e= .returned (B (mr h m g))/\bB ab w0 w'):=by
 refine Calls.run ab Tryz.func29 ?_
 intro ac β S
 have lZ:h.mem.length<=4194304:=ae.le (bu.mem (d:=h) aX)
 have l0:h.I.length<=4194304:=ae.le (bu.I (d:=h) aX)
 have lX:h.buf.length<=4194304:=ae.le (bu.buf (d:=h) aX)
 have lY:h.ag.length<=4194304:=ae.le (bu.ag (d:=h) aX)
 refine S.bd 11 (.cons (aE fun w hw=>Qa w h ai (bJ (S.arg aX) hw)) .nil) (eJ h) (fun ac w β h1 S=>?_) (fun ac w β h1 S=>?_)
 ·have a8:=sq h1
  refine S.bd 8 (.cons (hf (h.I.length:Int) 1) (.cons (aE fun w hw=>fE w m 0 ((h.I.length:Int)-1)) .nil)) (a3 m 0 ((h.I.length:Int)-1)) (fun ac w β aF S=>?_) (fun ac w β aF S=>?_)
  ·have cC:=cV aF
   have dQ:(el h.I m.toNat).U.length<=4194304:=ae.le (aU.U (d:=(el h.I m.toNat)) (ae.el (bu.I (d:=h) (S.arg aX)) m.toNat (by omega)))
   exact S.aq 15 (.cons (cq (bu.I (d:=h) (S.arg aX)) m Tryz.underlying28) (.cons (cA (bu.I (d:=h) (S.arg aX)) 71 m.toNat 3 (R (el h.I m.toNat).U.length (ai.I.2 m.toNat).U.1)) (.cons (hf ((el h.I m.toNat).U.length:Int) 1) (.cons (aE fun w hw=>fE w g 0 (((el h.I m.toNat).U.length:Int)-1)) .nil)))) [B (a3 g 0 (((el h.I m.toNat).U.length:Int)-1))] (a6 K6)
  have c6:=dn aF
  exact S.aq 15 .nil [B false] (a6 K6)
 exact S.aq 23 .nil [B false] (a6 K6)
theorem TS {p:Prop} (h:p:=by clear S;first|rfl|(simp [lN, *];done)|(simp [lN, *];omega)|(simp_all [lN];done)|(simp_all [lN];omega)):p:=h
theorem P6 (w0:World) (g:ax) (bf:c5) (aJ:bQ w0 g bf):Calls Tryz.prog 104 [GT.val g bf].toArray w0 (fun e w'=>e= .returned (B (lN g))/\bB ab w0 w'):=by
 refine Calls.run ab Tryz.func104 ?_
 intro ac β S
 have iE:g.prog.length<=4194304:=ae.le (az.prog (d:=g) aJ)
 have iG:g.written.length<=4194304:=ae.le (az.written (d:=g) aJ)
 have iD:g.live.length<=4194304:=ae.le (az.live (d:=g) aJ)
 have iF:g.seen.length<=4194304:=ae.le (az.seen (d:=g) aJ)
 refine S.bd 13 (.cons (fY (s:=Instr.build 68 [].toArray) (v:= .agg [aa 0,aa 0,B false,aa 0].toArray) (fun w=>by kernel_rfl)) (.cons (C2 (t:=68) g.exit (⟨0,0,false,0⟩:dg) (by kernel_rfl)) .nil)) (decide (g.exit=(⟨0,0,false,0⟩:dg))) (fun ac w β h1 S=>?_) (fun ac w β h1 S=>?_)
 ·exact S.aq 8 .nil [B (!g.halted)] (a6 TS)
 exact S.aq 8 .nil [B false] (a6 TS)
theorem K3 {p:Prop} (h:p:=by clear S;(first|(exact(akH (by assumption) cY (by omega) (by assumption) hb).symm)|(rcases Bool.eq_false_or_eq_true (a3 p 0 255) with bC|bC;exact(akI bC (by omega) hb).symm;exact(N1 bC).symm)|(exact(N1 (by assumption)).symm))):p:=h
theorem Qh (w0:World) (p:Int):Calls Tryz.prog 222 [aa p].toArray w0 (fun e w'=>e= .returned (aa (gr p))/\bB ab w0 w'):=by
 refine Calls.run ab Tryz.func222 ?_
 intro ac β S
 refine S.go 12 .nil fun ac w β S=>?_
 refine c8 (fun a4 ac w=>∃(n:Int) (u:_) (N:_) (β:_),a4=(n+1).toNat/\(-1<=n/\n<=7)/\(∀j:Nat,n<(j:Int)->j<8->¬jK (sV p (j:Int)) 1=1)/\aj Tryz.prog Tryz.f222.ntmps w0 ab u N β ⟨[(0,.v (aa p)),(3,.v (aa n))],[]⟩ ac w) _ ⟨7,_,_,_,rfl,(by omega),(by(intro j h1 an;omega)),S.z⟩ ?_
 clear S
 rintro f1 a4 fm ac w ⟨n,u,N,β,rfl,cY,hb,S⟩
 refine S.rs fun S=>?_
 refine S.aI 6 .nil (decide (n>=0)) (fun ac w β aF cC S=>?_) (fun ac w β aF cC S=>?_)
 ·refine S.bd 5 (.cons (aE fun w hw=>HN w p) .nil) (a3 p 0 255) (fun ac w β bm S=>?_) (fun ac w β bm S=>?_)
  ·have c6:=cV bm
   refine S.aI 15 (.cons (Hp (s:=3) (d:=185) (x:=n) Tryz.underlying3 Tryz.underlying185 (by omega) (by omega)) (.cons (Xk (yk:= .u64) (x:=p) (y:=n) (by omega)) (.cons (qO (x:=(sV p n)) (y:=1)) .nil))) ((jK (sV p n) 1)==1) (fun ac w β cE fl S=>?_) (fun ac w β cE fl S=>?_)
   ·exact S.aq 8 .nil [aa n] (b4 K3)
   refine S.ge 9 (.cons (hf n 1) .nil) f1 fun ac w β S=>fm.of ((n-1)+1).toNat _ _ (by omega) ⟨(n-1),_,_,_,rfl,?_,?_,S.z⟩
   ·clear S;omega
   ·clear S;(intro j h1 an;by_cases e:(j:Int)=n;rw [e];assumption;exact hb j (by omega) an)
  have fF:=dn bm
  exact S.aq 12 .nil [aa (-1)] (b4 K3)
 exact S.aq 17 .nil [aa (-1)] (b4 K3)
theorem Qg (w0:World) (g:ax) (bf:c5) (aJ:bQ w0 g bf):Calls Tryz.prog 105 [GT.val g bf].toArray w0 (fun e w'=>e= .returned (B (nT g))/\bB ab w0 w'):=by
 refine Calls.run ab Tryz.func105 ?_
 intro ac β S
 have iE:g.prog.length<=4194304:=ae.le (az.prog (d:=g) aJ)
 have iG:g.written.length<=4194304:=ae.le (az.written (d:=g) aJ)
 have iD:g.live.length<=4194304:=ae.le (az.live (d:=g) aJ)
 have iF:g.seen.length<=4194304:=ae.le (az.seen (d:=g) aJ)
 refine S.bd 11 (.cons (aE fun w hw=>P6 w g bf (bJ (S.arg aJ) hw)) .nil) (lN g) (fun ac w β h1 S=>?_) (fun ac w β h1 S=>?_)
 ·refine S.bd 5 .nil g.aN.e4 (fun ac w β an S=>?_) (fun ac w β an S=>?_)
  ·have p0:=CV g.aC
   exact S.aq 9 (.cons (aE fun w hw=>Qh w g.aC) .nil) [B (decide ((gr g.aC)>=0))] (a6 (by clear S;(simp [nT, *])))
  exact S.aq 9 .nil [B false] (a6 (by clear S;(simp [nT, *])))
 exact S.aq 14 .nil [B false] (a6 (by clear S;(simp [nT, *])))
theorem TW {p:Prop} (h:p:=by clear S;(first|(unfold bG;rw [if_pos (by omega)];done)|(unfold bG;rw [if_pos (by omega)];first|rfl|(simp;done))|(unfold bG;rw [if_neg (by omega)];done)|(unfold bG;rw [if_neg (by omega)];first|rfl|(simp;done)))):p:=h
theorem uU (w0:World) (p:List da) (pp:aD da) (bC:bQ w0 p pp) (aw:Int):Calls Tryz.prog 106 [R p.length pp.1,aa aw].toArray w0 (fun e w'=>e= .returned (GT.val (bG p aw) ())/\bB ab w0 w'):=by
 refine Calls.run ab Tryz.func106 ?_
 intro ac β S
 have J5:p.length<=4194304:=ae.le bC
 refine S.bd 16 (.cons (hf (p.length:Int) 1) (.cons (aE fun w hw=>fE w aw 0 ((p.length:Int)-1)) .nil)) (!(a3 aw 0 ((p.length:Int)-1))) (fun ac w β h1 S=>?_) (fun ac w β h1 S=>?_)
 ·have an:=cm h1
  have b7:=dn an
  exact S.aq 8 (.cons (fY (s:=Instr.build 128 [(0,aa 7)].toArray) (v:= .agg [aa 7,aa 0].toArray) (fun w=>by kernel_rfl)) .nil) [GT.val (⟨7,0⟩:da) ()] (hX (p:=()) TW)
 have b1:=b9 h1
 have dJ:=cV b1
 exact S.aq 13 (.cons (cq (S.arg bC) aw Tryz.underlying63) (.cons (dz (S.arg bC) 128 aw.toNat) .nil)) [GT.val (el p aw.toNat) ()] (hX (p:=()) TW)
theorem tN {p:Prop} (h:p:=by clear S;(unfold bY;first|(rw [if_pos (by assumption)];done)|(rw [if_neg (by simp [*]),if_pos (by assumption)];done)|(rw [if_neg (by simp [*]),if_neg (by simp [*])];unfold D9;first|(rw [if_pos (by assumption)];done)|(rw [if_neg (by assumption),if_pos (by assumption)];done)|(rw [if_neg (by assumption),if_neg (by assumption),if_pos (by assumption)];done)|(rw [if_neg (by assumption),if_neg (by assumption),if_neg (by assumption),if_pos (by assumption)];done)|(rw [if_neg (by assumption),if_neg (by assumption),if_neg (by assumption),if_neg (by assumption),if_pos (by assumption)];done)|(rw [if_neg (by assumption),if_neg (by assumption),if_neg (by assumption),if_neg (by assumption),if_neg (by assumption)];done)))):p:=h
theorem HP (w0:World) (g:ax) (bf:c5) (aJ:bQ w0 g bf):Calls Tryz.prog 30 [GT.val g bf].toArray w0 (fun e w'=>e= .returned (aa (bY g))/\bB ab w0 w'):=by
 refine Calls.run ab Tryz.func30 ?_
 intro ac β S
 have iE:g.prog.length<=4194304:=ae.le (az.prog (d:=g) aJ)
 have iG:g.written.length<=4194304:=ae.le (az.written (d:=g) aJ)
 have iD:g.live.length<=4194304:=ae.le (az.live (d:=g) aJ)
 have iF:g.seen.length<=4194304:=ae.le (az.seen (d:=g) aJ)
 refine S.bd 14 (.cons (aE fun w hw=>P6 w g bf (bJ (S.arg aJ) hw)) .nil) (!(lN g)) (fun ac w β h1 S=>?_) (fun ac w β h1 S=>?_)
 ·have an:=cm h1
  exact S.aq 7 .nil [aa 0] (b4 tN)
 have aF:=b9 h1
 refine S.bd 10 (.cons (aE fun w hw=>Qg w g bf (bJ (S.arg aJ) hw)) .nil) (nT g) (fun ac w β b1 S=>?_) (fun ac w β b1 S=>?_)
 ·exact S.aq 7 .nil [aa 1] (b4 tN)
 refine S.aI 21 (.cons (aE fun w hw=>uU w g.prog bf.prog (bJ (az.prog (d:=g) (S.arg aJ)) hw) g.aw) .nil) ((bG g.prog g.aw).eL==3) (fun ac w β bm c6 S=>?_) (fun ac w β bm c6 S=>?_)
 ·exact S.aq 7 .nil [aa 3] (b4 tN)
 refine S.aI 7 .nil ((bG g.prog g.aw).eL==4) (fun ac w β cE fl S=>?_) (fun ac w β cE fl S=>?_)
 ·exact S.aq 7 .nil [aa 4] (b4 tN)
 refine S.aI 7 .nil ((bG g.prog g.aw).eL==5) (fun ac w β ez iU S=>?_) (fun ac w β ez iU S=>?_)
 ·exact S.aq 7 .nil [aa 5] (b4 tN)
 refine S.aI 7 .nil ((bG g.prog g.aw).eL==6) (fun ac w β eS ie S=>?_) (fun ac w β eS ie S=>?_)
 ·exact S.aq 7 .nil [aa 6] (b4 tN)
 refine S.aI 7 .nil ((bG g.prog g.aw).eL==7) (fun ac w β jG nV S=>?_) (fun ac w β jG nV S=>?_)
 ·exact S.aq 7 .nil [aa 7] (b4 tN)
 exact S.aq 10 .nil [aa 2] (b4 tN)
theorem yS {p:Prop} (h:p:=by clear S;(first|(unfold eK;rw [if_pos (by assumption)];done)|(unfold eK;rw [if_neg (by assumption)];done)|(unfold eK;rw [if_neg (by assumption)];exact Gy (by assumption))|(unfold eK;rw [if_neg (by assumption)];exact(Gy (by assumption)).symm))):p:=h
theorem aag (w0:World) (p:Int) (bC:a_ p):Calls Tryz.prog 108 [aa p].toArray w0 (fun e w'=>e= .returned (.tuple #[aa (eK p).1,aa (eK p).2.1,B (eK p).2.2])/\bB ab w0 w'):=by
 refine Calls.run ab Tryz.func108 ?_
 intro ac β S
 have ae8:=bC.lo;have aeN:=bC.hi
 have hP:=CV p
 refine S.aI 21 (.cons (aE fun w hw=>Qh w p) .nil) (decide ((gr p)<0)) (fun ac w β an b7 S=>?_) (fun ac w β an b7 S=>?_)
 ·exact S.aq 10 .nil [aa p,aa (-1),B false] (Gb (h_ (show p=(eK p).1 from yS)) (h_ (show(-1)=(eK p).2.1 from yS)) (jB (show false=(eK p).2.2 from yS)))
 exact S.aq 17 (.cons (Hp (s:=3) (d:=185) (x:=(gr p)) Tryz.underlying3 Tryz.underlying185 (by omega) (by omega)) (.cons (OH (yk:= .u64) (x:=1) (y:=(gr p)) (by omega)) (.cons (Xn (x:=p) (y:=(oX 1 (gr p)))) .nil))) [aa (IntKind.i64.wrap (p-(oX 1 (gr p)))),aa (gr p),B true] (Gb (h_ (show(IntKind.i64.wrap (p-(oX 1 (gr p))))=(eK p).1 from yS)) (h_ (show(gr p)=(eK p).2.1 from yS)) (jB (show true=(eK p).2.2 from yS)))
theorem T0 {p:Prop} (h:p:=by clear S;(first|(unfold g7;rw [if_pos (by omega)];done)|(unfold g7;rw [if_pos (by omega)];first|rfl|(simp;done))|(unfold g7;rw [if_neg (by omega)];done)|(unfold g7;rw [if_neg (by omega)];first|rfl|(simp;done)))):p:=h
theorem Qe (w0:World) (g:ax) (bf:c5) (aJ:bQ w0 g bf) (n:Int) (cY:a_ n):Calls Tryz.prog 109 [GT.val g bf,aa n].toArray w0 (dw ab w0 (g7 g n:ax)):=by
 refine Calls.run ab Tryz.func109 ?_
 intro ac β S
 have iE:g.prog.length<=4194304:=ae.le (az.prog (d:=g) aJ)
 have iG:g.written.length<=4194304:=ae.le (az.written (d:=g) aJ)
 have iD:g.live.length<=4194304:=ae.le (az.live (d:=g) aJ)
 have iF:g.seen.length<=4194304:=ae.le (az.seen (d:=g) aJ)
 have yD:=cY.lo;have yv:=cY.hi
 refine S.go 9 .nil fun ac w β S=>S.cJ (r:=g) (d:=6) (uV w g bf (S.rd (S.arg aJ))) fun ac w N af br S up aA d4=>?_
 clear up d4
 have i8:a_ g.acc:=az.acc (d:=g) aA.ak
 have i9:a_ g.aw:=az.aw (d:=g) aA.ak
 have i16:hz g.aN:=az.aN (d:=g) aA.ak
 have i17:a_ g.aC:=az.aC (d:=g) aA.ak
 have i18:fL g.exit:=az.exit (d:=g) aA.ak
 obtain⟨dU,dY,gf,kr,bL,bq,c3,dK,_,_,_,_,d22,d23,d24,d25,d26,d27⟩:=mP aA
 refine S.aI 12 .nil (decide ((g.seen.length:Int)<40)) (fun ac w β hD lQ S=>?_) (fun ac w β hD lQ S=>?_)
 ·refine S.go 5 .nil fun ac w β S=>S.h3 (α:=Int) (x:=n) (p:=()) (F:=ab) cY (fun b h=>False.elim h) (fun b h=>False.elim h) (d:=14) fun ac w N mN qI S up fZ d33=>?_
  replace bL:=bL.up up
  replace bq:=bq.up up
  replace c3:=c3.up up
  replace dK:=dK.up up
  clear up d33
  refine S.kq (α:=Int) dK fZ.ak (fun _ _ h=>h) (by':=8) (d:=15) (lx:=g.seen.length) (ly:=1) rfl rfl (show _<=4194304 by simp only [List.length_append,List.length_cons,List.length_nil];omega) fun ac w N lB xh S up kj d41=>?_
  have d42:=d41 _ d24 bL.sub
  have d43:=d41 _ d26 bq.sub
  have d44:=d41 _ d27 c3.sub
  replace bL:=bL.bk d24 up
  replace bq:=bq.bk d26 up
  replace c3:=c3.bk d27 up
  clear up d41
  refine S.bo 11 .nil [GT.val (⟨g.prog,g.acc,g.aw,g.written,g.live,g.aN,g.aC,g.exit,g.halted,(g.seen++[n])⟩:ax) (⟨af.prog,af.written,af.live,lB⟩:c5)] fun ac w β S=>?_
  have hr:=hK (x:=(⟨g.prog,g.acc,g.aw,g.written,g.live,g.aN,g.aC,g.exit,g.halted,(g.seen++[n])⟩:ax)) (p:=(⟨af.prog,af.written,af.live,lB⟩:c5)) bL bq c3 kj d22 d23 d42 d25 d43 d44 i8 i9 i16 i17 i18
  exact cy S (show g7 g n=(⟨g.prog,g.acc,g.aw,g.written,g.live,g.aN,g.aC,g.exit,g.halted,(g.seen++[n])⟩:ax) from T0) rfl hr
 refine S.bo 10 .nil [GT.val g af] fun ac w β S=>?_
 have BZ:=hK (x:=g) (p:=af) bL bq c3 dK d22 d23 d24 d25 d26 d27 i8 i9 i16 i17 i18
 exact cy S (show g7 g n=g from T0) rfl BZ
theorem TX {p:Prop} (h:p:=by clear S;(unfold jt;first|(rw [if_pos (by assumption)];done)|(rw [if_neg (by simp [*])];done))):p:=h
theorem Z5 (w0:World) (g:ax) (bf:c5) (aJ:bQ w0 g bf):Calls Tryz.prog 31 [GT.val g bf].toArray w0 (dw ab w0 (jt g:ax)):=by
 refine Calls.run ab Tryz.func31 ?_
 intro ac β S
 have iE:g.prog.length<=4194304:=ae.le (az.prog (d:=g) aJ)
 have iG:g.written.length<=4194304:=ae.le (az.written (d:=g) aJ)
 have iD:g.live.length<=4194304:=ae.le (az.live (d:=g) aJ)
 have iF:g.seen.length<=4194304:=ae.le (az.seen (d:=g) aJ)
 refine S.bd 14 (.cons (aE fun w hw=>Qg w g bf (bJ (S.arg aJ) hw)) .nil) (!(nT g)) (fun ac w β h1 S=>?_) (fun ac w β h1 S=>?_)
 ·have an:=cm h1
  refine S.go 4 .nil fun ac w β S=>S.cJ (r:=g) (d:=10) (uV w g bf (S.rd (S.arg aJ))) fun ac w N sQ fg S up bX d6=>?_
  clear up d6
  refine S.bo 4 .nil [GT.val g sQ] fun ac w β S=>?_
  exact cy S (show jt g=g from TX) rfl bX
 have cE:=b9 h1
 have X9:=Wi g.aC
 refine S.go 29 (.cons (aE fun w hw=>aag w g.aC (az.aC (d:=g) (S.arg aJ))) (.cons (cc 100 ((eK g.aC).2.1)) .nil)) fun ac w β S=>S.cJ (r:=g7 (⟨g.prog,g.acc,g.aw,g.written,g.live,g.aN,(eK g.aC).1,g.exit,g.halted,g.seen⟩:ax) (100+(eK g.aC).2.1)) (d:=23) (Qe w (⟨g.prog,g.acc,g.aw,g.written,g.live,g.aN,(eK g.aC).1,g.exit,g.halted,g.seen⟩:ax) (⟨bf.prog,bf.written,bf.live,bf.seen⟩:c5) (S.rd (show GT.rd b6 _ _ (⟨g.prog,g.acc,g.aw,g.written,g.live,g.aN,(eK g.aC).1,g.exit,g.halted,g.seen⟩:ax) (⟨bf.prog,bf.written,bf.live,bf.seen⟩:c5) from⟨(az.prog (p:=bf) (d:=g) (S.arg aJ)),(az.acc (d:=g) (S.arg aJ)),(az.aw (d:=g) (S.arg aJ)),(az.written (p:=bf) (d:=g) (S.arg aJ)),(az.live (p:=bf) (d:=g) (S.arg aJ)),(az.aN (d:=g) (S.arg aJ)),(Wj (az.aC (d:=g) (S.arg aJ))),(az.exit (d:=g) (S.arg aJ)),(az.seen (p:=bf) (d:=g) (S.arg aJ))⟩)) (100+(eK g.aC).2.1) ⟨by omega,by omega⟩) fun ac w N wO dY S up bq d12=>?_
 clear up d12
 refine S.bo 4 .nil [GT.val (g7 (⟨g.prog,g.acc,g.aw,g.written,g.live,g.aN,(eK g.aC).1,g.exit,g.halted,g.seen⟩:ax) (100+(eK g.aC).2.1)) wO] fun ac w β S=>?_
 exact cy S (show jt g=(g7 (⟨g.prog,g.acc,g.aw,g.written,g.live,g.aN,(eK g.aC).1,g.exit,g.halted,g.seen⟩:ax) (100+(eK g.aC).2.1)) from TX) rfl bq
theorem TY {p:Prop} (h:p:=by clear S;(unfold a5;first|(rw [if_pos (by omega)];done)|(rw [if_neg (by omega)];done))):p:=h
theorem p3 (w0:World) (g:ax) (bf:c5) (aJ:bQ w0 g bf):Calls Tryz.prog 110 [GT.val g bf].toArray w0 (dw ab w0 (a5 g:ax)):=by
 refine Calls.run ab Tryz.func110 ?_
 intro ac β S
 have Bl:=az.aw (d:=g) aJ
 have hpl:=Bl.lo
 have afl:=Bl.hi
 have iE:g.prog.length<=4194304:=ae.le (az.prog (d:=g) aJ)
 have iG:g.written.length<=4194304:=ae.le (az.written (d:=g) aJ)
 have iD:g.live.length<=4194304:=ae.le (az.live (d:=g) aJ)
 have iF:g.seen.length<=4194304:=ae.le (az.seen (d:=g) aJ)
 refine S.go 9 .nil fun ac w β S=>S.cJ (r:=g) (d:=4) (uV w g bf (S.rd (S.arg aJ))) fun ac w N af br S up aA d4=>?_
 clear up d4
 have i8:a_ g.acc:=az.acc (d:=g) aA.ak
 have i16:hz g.aN:=az.aN (d:=g) aA.ak
 have i17:a_ g.aC:=az.aC (d:=g) aA.ak
 have i18:fL g.exit:=az.exit (d:=g) aA.ak
 obtain⟨dU,dY,gf,kr,bL,bq,c3,dK,_,_,_,_,d22,d23,d24,d25,d26,d27⟩:=mP aA
 refine S.aI 11 .nil (decide (g.aw>=12)) (fun ac w β hD lQ S=>?_) (fun ac w β hD lQ S=>?_)
 ·refine S.bo 13 .nil [GT.val (⟨g.prog,g.acc,12,g.written,g.live,g.aN,g.aC,g.exit,g.halted,g.seen⟩:ax) (⟨af.prog,af.written,af.live,af.seen⟩:c5)] fun ac w β S=>?_
  have e2:=hK (x:=(⟨g.prog,g.acc,12,g.written,g.live,g.aN,g.aC,g.exit,g.halted,g.seen⟩:ax)) (p:=(⟨af.prog,af.written,af.live,af.seen⟩:c5)) bL bq c3 dK d22 d23 d24 d25 d26 d27 i8 (show a_ 12 from⟨by decide,by decide⟩) i16 i17 i18
  exact cy S (show a5 g=(⟨g.prog,g.acc,12,g.written,g.live,g.aN,g.aC,g.exit,g.halted,g.seen⟩:ax) from TY) rfl e2
 refine S.bo 16 (.cons (cc g.aw 1) .nil) [GT.val (⟨g.prog,g.acc,(g.aw+1),g.written,g.live,g.aN,g.aC,g.exit,g.halted,g.seen⟩:ax) (⟨af.prog,af.written,af.live,af.seen⟩:c5)] fun ac w β S=>?_
 have l7:=hK (x:=(⟨g.prog,g.acc,(g.aw+1),g.written,g.live,g.aN,g.aC,g.exit,g.halted,g.seen⟩:ax)) (p:=(⟨af.prog,af.written,af.live,af.seen⟩:c5)) bL bq c3 dK d22 d23 d24 d25 d26 d27 i8 (show a_ (g.aw+1) from⟨by omega,by omega⟩) i16 i17 i18
 exact cy S (show a5 g=(⟨g.prog,g.acc,(g.aw+1),g.written,g.live,g.aN,g.aC,g.exit,g.halted,g.seen⟩:ax) from TY) rfl l7
theorem tL {p:Prop} (h:p:=by clear S;(unfold gx;first|(rw [if_neg (by assumption)];done)|(rw [if_pos (by assumption)];unfold II;(repeat' split)<;>first|rfl|(exfalso;omega)|(exfalso;simp_all;done)|(exfalso;simp_all;omega)|(simp_all;done)|(simp_all [a5];done)))):p:=h
theorem aab (w0:World) (g:ax) (bf:c5) (aJ:bQ w0 g bf):Calls Tryz.prog 32 [GT.val g bf].toArray w0 (dw ab w0 (gx g:ax)):=by
 refine Calls.run ab Tryz.func32 ?_
 intro ac β S
 have iE:g.prog.length<=4194304:=ae.le (az.prog (d:=g) aJ)
 have iG:g.written.length<=4194304:=ae.le (az.written (d:=g) aJ)
 have iD:g.live.length<=4194304:=ae.le (az.live (d:=g) aJ)
 have iF:g.seen.length<=4194304:=ae.le (az.seen (d:=g) aJ)
 have hP:=uz g
 refine S.aI 14 (.cons (aE fun w hw=>HP w g bf (bJ (S.arg aJ) hw)) .nil) ((bY g) != 2) (fun ac w β an b7 S=>?_) (fun ac w β an b7 S=>?_)
 ·refine S.go 4 .nil fun ac w β S=>S.cJ (r:=g) (d:=9) (uV w g bf (S.rd (S.arg aJ))) fun ac w N qz dU S up bL d7=>?_
  clear up d7
  have i11:a_ g.acc:=az.acc (d:=g) bL.ak
  have i12:a_ g.aw:=az.aw (d:=g) bL.ak
  have i19:hz g.aN:=az.aN (d:=g) bL.ak
  have i20:a_ g.aC:=az.aC (d:=g) bL.ak
  have i21:fL g.exit:=az.exit (d:=g) bL.ak
  obtain⟨e7,gf,pU,fJ,bF,c3,ev,bb,_,_,_,_,d25,d26,d27,d28,d29,d30⟩:=mP bL
  refine S.bo 4 .nil [GT.val g qz] fun ac w β S=>?_
  have l7:=hK (x:=g) (p:=qz) bF c3 ev bb d25 d26 d27 d28 d29 d30 i11 i12 i19 i20 i21
  exact cy S (show gx g=g from tL) rfl l7
 refine S.bd 20 (.cons (aE fun w hw=>uU w g.prog bf.prog (bJ (az.prog (d:=g) (S.arg aJ)) hw) g.aw) (.cons (aE fun w hw=>fE w g.acc 0 99) .nil)) (a3 g.acc 0 99) (fun ac w β ps S=>?_) (fun ac w β ps S=>?_)
 ·have Ar:=cV ps
  refine S.bd 13 (.cons (aE fun w hw=>fE w (bG g.prog g.aw).x 0 99) .nil) (a3 (bG g.prog g.aw).x 0 99) (fun ac w β vj S=>?_) (fun ac w β vj S=>?_)
  ·have IW:=cV vj
   refine S.lt 4 vj fun S=>?_
   refine S.aI 7 .nil ((bG g.prog g.aw).eL==1) (fun ac w β yp yb S=>?_) (fun ac w β yp yb S=>?_)
   ·refine S.go 12 .nil fun ac w β S=>S.cJ (r:=a5 (⟨g.prog,(bG g.prog g.aw).x,g.aw,g.written,g.live,g.aN,g.aC,g.exit,g.halted,g.seen⟩:ax)) (d:=66) (p3 w (⟨g.prog,(bG g.prog g.aw).x,g.aw,g.written,g.live,g.aN,g.aC,g.exit,g.halted,g.seen⟩:ax) (⟨bf.prog,bf.written,bf.live,bf.seen⟩:c5) (S.rd (show GT.rd b6 _ _ (⟨g.prog,(bG g.prog g.aw).x,g.aw,g.written,g.live,g.aN,g.aC,g.exit,g.halted,g.seen⟩:ax) (⟨bf.prog,bf.written,bf.live,bf.seen⟩:c5) from⟨(az.prog (p:=bf) (d:=g) (S.arg aJ)),(je.x (d:=(bG g.prog g.aw)) (l4 (az.prog (d:=g) (S.arg aJ)) g.aw)),(az.aw (d:=g) (S.arg aJ)),(az.written (p:=bf) (d:=g) (S.arg aJ)),(az.live (p:=bf) (d:=g) (S.arg aJ)),(az.aN (d:=g) (S.arg aJ)),(az.aC (d:=g) (S.arg aJ)),(az.exit (d:=g) (S.arg aJ)),(az.seen (p:=bf) (d:=g) (S.arg aJ))⟩))) fun ac w N lB xh S up kj d41=>?_
    clear up d41
    have i45:a_ (a5 (⟨g.prog,(bG g.prog g.aw).x,g.aw,g.written,g.live,g.aN,g.aC,g.exit,g.halted,g.seen⟩:ax)).acc:=az.acc (d:=(a5 (⟨g.prog,(bG g.prog g.aw).x,g.aw,g.written,g.live,g.aN,g.aC,g.exit,g.halted,g.seen⟩:ax))) kj.ak
    have i46:a_ (a5 (⟨g.prog,(bG g.prog g.aw).x,g.aw,g.written,g.live,g.aN,g.aC,g.exit,g.halted,g.seen⟩:ax)).aw:=az.aw (d:=(a5 (⟨g.prog,(bG g.prog g.aw).x,g.aw,g.written,g.live,g.aN,g.aC,g.exit,g.halted,g.seen⟩:ax))) kj.ak
    have i53:hz (a5 (⟨g.prog,(bG g.prog g.aw).x,g.aw,g.written,g.live,g.aN,g.aC,g.exit,g.halted,g.seen⟩:ax)).aN:=az.aN (d:=(a5 (⟨g.prog,(bG g.prog g.aw).x,g.aw,g.written,g.live,g.aN,g.aC,g.exit,g.halted,g.seen⟩:ax))) kj.ak
    have i54:a_ (a5 (⟨g.prog,(bG g.prog g.aw).x,g.aw,g.written,g.live,g.aN,g.aC,g.exit,g.halted,g.seen⟩:ax)).aC:=az.aC (d:=(a5 (⟨g.prog,(bG g.prog g.aw).x,g.aw,g.written,g.live,g.aN,g.aC,g.exit,g.halted,g.seen⟩:ax))) kj.ak
    have i55:fL (a5 (⟨g.prog,(bG g.prog g.aw).x,g.aw,g.written,g.live,g.aN,g.aC,g.exit,g.halted,g.seen⟩:ax)).exit:=az.exit (d:=(a5 (⟨g.prog,(bG g.prog g.aw).x,g.aw,g.written,g.live,g.aN,g.aC,g.exit,g.halted,g.seen⟩:ax))) kj.ak
    obtain⟨zA,Db,qK,kb,k7,tX,g_,nk,_,_,_,_,d59,d60,d61,d62,d63,d64⟩:=mP kj
    refine S.bo 4 .nil [GT.val (a5 (⟨g.prog,(bG g.prog g.aw).x,g.aw,g.written,g.live,g.aN,g.aC,g.exit,g.halted,g.seen⟩:ax)) lB] fun ac w β S=>?_
    have sG:=hK (x:=(a5 (⟨g.prog,(bG g.prog g.aw).x,g.aw,g.written,g.live,g.aN,g.aC,g.exit,g.halted,g.seen⟩:ax))) (p:=lB) k7 tX g_ nk d59 d60 d61 d62 d63 d64 i45 i46 i53 i54 i55
    exact cy S (show gx g=(a5 (⟨g.prog,(bG g.prog g.aw).x,g.aw,g.written,g.live,g.aN,g.aC,g.exit,g.halted,g.seen⟩:ax)) from tL) rfl sG
   refine S.aI 12 .nil ((bG g.prog g.aw).eL==2) (fun ac w β sc vg S=>?_) (fun ac w β sc vg S=>?_)
   ·refine S.go 16 (.cons (cc g.acc ((bG g.prog g.aw).x)) (.cons (o3 (x:=(g.acc+(bG g.prog g.aw).x)) (y:=100) (by decide)) .nil)) fun ac w β S=>S.cJ (r:=a5 (⟨g.prog,(Int.tmod (g.acc+(bG g.prog g.aw).x) 100),g.aw,g.written,g.live,g.aN,g.aC,g.exit,g.halted,g.seen⟩:ax)) (d:=66) (p3 w (⟨g.prog,(Int.tmod (g.acc+(bG g.prog g.aw).x) 100),g.aw,g.written,g.live,g.aN,g.aC,g.exit,g.halted,g.seen⟩:ax) (⟨bf.prog,bf.written,bf.live,bf.seen⟩:c5) (S.rd (show GT.rd b6 _ _ (⟨g.prog,(Int.tmod (g.acc+(bG g.prog g.aw).x) 100),g.aw,g.written,g.live,g.aN,g.aC,g.exit,g.halted,g.seen⟩:ax) (⟨bf.prog,bf.written,bf.live,bf.seen⟩:c5) from⟨(az.prog (p:=bf) (d:=g) (S.arg aJ)),(Wl (by decide)),(az.aw (d:=g) (S.arg aJ)),(az.written (p:=bf) (d:=g) (S.arg aJ)),(az.live (p:=bf) (d:=g) (S.arg aJ)),(az.aN (d:=g) (S.arg aJ)),(az.aC (d:=g) (S.arg aJ)),(az.exit (d:=g) (S.arg aJ)),(az.seen (p:=bf) (d:=g) (S.arg aJ))⟩))) fun ac w N oV Hk S up iY d71=>?_
    clear up d71
    have i75:a_ (a5 (⟨g.prog,(Int.tmod (g.acc+(bG g.prog g.aw).x) 100),g.aw,g.written,g.live,g.aN,g.aC,g.exit,g.halted,g.seen⟩:ax)).acc:=az.acc (d:=(a5 (⟨g.prog,(Int.tmod (g.acc+(bG g.prog g.aw).x) 100),g.aw,g.written,g.live,g.aN,g.aC,g.exit,g.halted,g.seen⟩:ax))) iY.ak
    have i76:a_ (a5 (⟨g.prog,(Int.tmod (g.acc+(bG g.prog g.aw).x) 100),g.aw,g.written,g.live,g.aN,g.aC,g.exit,g.halted,g.seen⟩:ax)).aw:=az.aw (d:=(a5 (⟨g.prog,(Int.tmod (g.acc+(bG g.prog g.aw).x) 100),g.aw,g.written,g.live,g.aN,g.aC,g.exit,g.halted,g.seen⟩:ax))) iY.ak
    have i83:hz (a5 (⟨g.prog,(Int.tmod (g.acc+(bG g.prog g.aw).x) 100),g.aw,g.written,g.live,g.aN,g.aC,g.exit,g.halted,g.seen⟩:ax)).aN:=az.aN (d:=(a5 (⟨g.prog,(Int.tmod (g.acc+(bG g.prog g.aw).x) 100),g.aw,g.written,g.live,g.aN,g.aC,g.exit,g.halted,g.seen⟩:ax))) iY.ak
    have i84:a_ (a5 (⟨g.prog,(Int.tmod (g.acc+(bG g.prog g.aw).x) 100),g.aw,g.written,g.live,g.aN,g.aC,g.exit,g.halted,g.seen⟩:ax)).aC:=az.aC (d:=(a5 (⟨g.prog,(Int.tmod (g.acc+(bG g.prog g.aw).x) 100),g.aw,g.written,g.live,g.aN,g.aC,g.exit,g.halted,g.seen⟩:ax))) iY.ak
    have i85:fL (a5 (⟨g.prog,(Int.tmod (g.acc+(bG g.prog g.aw).x) 100),g.aw,g.written,g.live,g.aN,g.aC,g.exit,g.halted,g.seen⟩:ax)).exit:=az.exit (d:=(a5 (⟨g.prog,(Int.tmod (g.acc+(bG g.prog g.aw).x) 100),g.aw,g.written,g.live,g.aN,g.aC,g.exit,g.halted,g.seen⟩:ax))) iY.ak
    obtain⟨o2,W5,zC,dX,hJ,l9,n3,hW,_,_,_,_,d89,d90,d91,d92,d93,d94⟩:=mP iY
    refine S.bo 4 .nil [GT.val (a5 (⟨g.prog,(Int.tmod (g.acc+(bG g.prog g.aw).x) 100),g.aw,g.written,g.live,g.aN,g.aC,g.exit,g.halted,g.seen⟩:ax)) oV] fun ac w β S=>?_
    have B6:=hK (x:=(a5 (⟨g.prog,(Int.tmod (g.acc+(bG g.prog g.aw).x) 100),g.aw,g.written,g.live,g.aN,g.aC,g.exit,g.halted,g.seen⟩:ax))) (p:=oV) hJ l9 n3 hW d89 d90 d91 d92 d93 d94 i75 i76 i83 i84 i85
    exact cy S (show gx g=(a5 (⟨g.prog,(Int.tmod (g.acc+(bG g.prog g.aw).x) 100),g.aw,g.written,g.live,g.aN,g.aC,g.exit,g.halted,g.seen⟩:ax)) from tL) rfl B6
   refine S.aI 10 .nil ((bG g.prog g.aw).eL==8) (fun ac w β AI I2 S=>?_) (fun ac w β AI I2 S=>?_)
   ·refine S.aI 7 .nil (g.acc==0) (fun ac w β adF acV S=>?_) (fun ac w β adF acV S=>?_)
    ·refine S.go 4 .nil fun ac w β S=>S.cJ (r:=g) (d:=60) (uV w g bf (S.rd (S.arg aJ))) fun ac w N mM jy S up oM d103=>?_
     clear up d103
     have i107:a_ g.acc:=az.acc (d:=g) oM.ak
     have i115:hz g.aN:=az.aN (d:=g) oM.ak
     have i116:a_ g.aC:=az.aC (d:=g) oM.ak
     have i117:fL g.exit:=az.exit (d:=g) oM.ak
     obtain⟨iQ,GH,C3,zw,n0,Fs,ahC,pG,_,_,_,_,d121,d122,d123,d124,d125,d126⟩:=mP oM
     refine S.bo 18 .nil [GT.val (⟨g.prog,g.acc,(bG g.prog g.aw).x,g.written,g.live,g.aN,g.aC,g.exit,g.halted,g.seen⟩:ax) (⟨mM.prog,mM.written,mM.live,mM.seen⟩:c5)] fun ac w β S=>?_
     have wA:=hK (x:=(⟨g.prog,g.acc,(bG g.prog g.aw).x,g.written,g.live,g.aN,g.aC,g.exit,g.halted,g.seen⟩:ax)) (p:=(⟨mM.prog,mM.written,mM.live,mM.seen⟩:c5)) n0 Fs ahC pG d121 d122 d123 d124 d125 d126 i107 (je.x (d:=(bG g.prog g.aw)) (l4 (az.prog (d:=g) (S.arg aJ)) g.aw)) i115 i116 i117
     exact cy S (show gx g=(⟨g.prog,g.acc,(bG g.prog g.aw).x,g.written,g.live,g.aN,g.aC,g.exit,g.halted,g.seen⟩:ax) from tL) rfl wA
    refine S.go 7 .nil fun ac w β S=>S.cJ (r:=a5 g) (d:=66) (p3 w g bf (S.rd (S.arg aJ))) fun ac w N Vz zx S up mJ d131=>?_
    clear up d131
    have i135:a_ (a5 g).acc:=az.acc (d:=(a5 g)) mJ.ak
    have i136:a_ (a5 g).aw:=az.aw (d:=(a5 g)) mJ.ak
    have i143:hz (a5 g).aN:=az.aN (d:=(a5 g)) mJ.ak
    have i144:a_ (a5 g).aC:=az.aC (d:=(a5 g)) mJ.ak
    have i145:fL (a5 g).exit:=az.exit (d:=(a5 g)) mJ.ak
    obtain⟨Oh,alK,alM,C7,BO,n1,sD,rk,_,_,_,_,d149,d150,d151,d152,d153,d154⟩:=mP mJ
    refine S.bo 4 .nil [GT.val (a5 g) Vz] fun ac w β S=>?_
    have jg:=hK (x:=(a5 g)) (p:=Vz) BO n1 sD rk d149 d150 d151 d152 d153 d154 i135 i136 i143 i144 i145
    exact cy S (show gx g=(a5 g) from tL) rfl jg
   refine S.go 14 .nil fun ac w β S=>S.cJ (r:=a5 g) (d:=66) (p3 w g bf (S.rd (S.arg aJ))) fun ac w N VD alN S up oN d159=>?_
   clear up d159
   have i163:a_ (a5 g).acc:=az.acc (d:=(a5 g)) oN.ak
   have i164:a_ (a5 g).aw:=az.aw (d:=(a5 g)) oN.ak
   have i171:hz (a5 g).aN:=az.aN (d:=(a5 g)) oN.ak
   have i172:a_ (a5 g).aC:=az.aC (d:=(a5 g)) oN.ak
   have i173:fL (a5 g).exit:=az.exit (d:=(a5 g)) oN.ak
   obtain⟨alP,WI,alR,alS,LK,ahG,ahH,ahJ,_,_,_,_,d177,d178,d179,d180,d181,d182⟩:=mP oN
   refine S.bo 4 .nil [GT.val (a5 g) VD] fun ac w β S=>?_
   have ahL:=hK (x:=(a5 g)) (p:=VD) LK ahG ahH ahJ d177 d178 d179 d180 d181 d182 i163 i164 i171 i172 i173
   exact cy S (show gx g=(a5 g) from tL) rfl ahL
  have aob:=dn vj
  refine S.lt 4 vj fun S=>?_
  refine S.go 43 .nil fun ac w β S=>S.cJ (r:=a5 g) (d:=66) (p3 w g bf (S.rd (S.arg aJ))) fun ac w N VF alT S up yY d188=>?_
  clear up d188
  have i192:a_ (a5 g).acc:=az.acc (d:=(a5 g)) yY.ak
  have i193:a_ (a5 g).aw:=az.aw (d:=(a5 g)) yY.ak
  have i200:hz (a5 g).aN:=az.aN (d:=(a5 g)) yY.ak
  have i201:a_ (a5 g).aC:=az.aC (d:=(a5 g)) yY.ak
  have i202:fL (a5 g).exit:=az.exit (d:=(a5 g)) yY.ak
  obtain⟨alU,alV,jV,alX,BR,qu,ahN,ahO,_,_,_,_,d206,d207,d208,d209,d210,d211⟩:=mP yY
  refine S.bo 4 .nil [GT.val (a5 g) VF] fun ac w β S=>?_
  have ahQ:=hK (x:=(a5 g)) (p:=VF) BR qu ahN ahO d206 d207 d208 d209 d210 d211 i192 i193 i200 i201 i202
  exact cy S (show gx g=(a5 g) from tL) rfl ahQ
 have aoe:=dn ps
 refine S.go 56 .nil fun ac w β S=>S.cJ (r:=a5 g) (d:=66) (p3 w g bf (S.rd (S.arg aJ))) fun ac w N lA ks S up l6 d217=>?_
 clear up d217
 have i221:a_ (a5 g).acc:=az.acc (d:=(a5 g)) l6.ak
 have i222:a_ (a5 g).aw:=az.aw (d:=(a5 g)) l6.ak
 have i229:hz (a5 g).aN:=az.aN (d:=(a5 g)) l6.ak
 have i230:a_ (a5 g).aC:=az.aC (d:=(a5 g)) l6.ak
 have i231:fL (a5 g).exit:=az.exit (d:=(a5 g)) l6.ak
 obtain⟨kt,Ou,alZ,jc,sF,yZ,ahS,fV,_,_,_,_,d235,d236,d237,d238,d239,d240⟩:=mP l6
 refine S.bo 4 .nil [GT.val (a5 g) lA] fun ac w β S=>?_
 have ahT:=hK (x:=(a5 g)) (p:=lA) sF yZ ahS fV d235 d236 d237 d238 d239 d240 i221 i222 i229 i230 i231
 exact cy S (show gx g=(a5 g) from tL) rfl ahT
theorem KX {p:Prop} (h:p:=by clear S;(unfold bn;first|(rw [if_pos (by first|exact Or.inl (by assumption)|exact Or.inr (by assumption)|omega)];done)|(rw [if_neg (by omega)];done))):p:=h
theorem ZO (w0:World) (g:ax) (bf:c5) (aJ:bQ w0 g bf):Calls Tryz.prog 111 [GT.val g bf].toArray w0 (fun e w'=>e= .returned (aa (bn g))/\bB ab w0 w'):=by
 refine Calls.run ab Tryz.func111 ?_
 intro ac β S
 have iE:g.prog.length<=4194304:=ae.le (az.prog (d:=g) aJ)
 have iG:g.written.length<=4194304:=ae.le (az.written (d:=g) aJ)
 have iD:g.live.length<=4194304:=ae.le (az.live (d:=g) aJ)
 have iF:g.seen.length<=4194304:=ae.le (az.seen (d:=g) aJ)
 have hP:=uz g
 refine S.aI 19 (.cons (aE fun w hw=>HP w g bf (bJ (S.arg aJ) hw)) .nil) ((bY g) != 3) (fun ac w β an b7 S=>?_) (fun ac w β an b7 S=>?_)
 ·refine S.aI 5 .nil ((bY g) != 4) (fun ac w β b1 dJ S=>?_) (fun ac w β b1 dJ S=>?_)
  ·exact S.aq 7 .nil [aa (-1)] (b4 KX)
  exact S.aq 15 (.cons (aE fun w hw=>uU w g.prog bf.prog (bJ (az.prog (d:=g) (S.arg aJ)) hw) g.aw) .nil) [aa (bG g.prog g.aw).x] (b4 KX)
 exact S.aq 20 (.cons (aE fun w hw=>uU w g.prog bf.prog (bJ (az.prog (d:=g) (S.arg aJ)) hw) g.aw) .nil) [aa (bG g.prog g.aw).x] (b4 KX)
theorem TQ {p:Prop} (h:p:=by clear S;(first|(unfold ct;rw [if_pos (by omega)];done)|(unfold ct;rw [if_pos (by omega)];first|rfl|(simp;done))|(unfold ct;rw [if_neg (by omega)];done)|(unfold ct;rw [if_neg (by omega)];first|rfl|(simp;done)))):p:=h
theorem P3 (w0:World) (addr:Int) (oC:a_ addr):Calls Tryz.prog 113 [aa addr].toArray w0 (fun e w'=>e= .returned (aa (ct addr))/\bB ab w0 w'):=by
 refine Calls.run ab Tryz.func113 ?_
 intro ac β S
 have J7:=oC.lo;have JO:=oC.hi
 refine S.aI 12 .nil (decide (addr<0)) (fun ac w β h1 a8 S=>?_) (fun ac w β h1 a8 S=>?_)
 ·exact S.aq 7 .nil [aa (-1)] (b4 TQ)
 exact S.aq 11 (.cons (OG (x:=addr) (y:=4) (by decide) (Wk oC (by omega))) .nil) [aa (Int.tdiv addr 4)] (b4 TQ)
theorem Z9 (w0:World) (write:Bool):Calls Tryz.prog 114 [B write].toArray w0 (fun e w'=>e= .returned (aa (dD write))/\bB ab w0 w'):=by
 refine Calls.run ab Tryz.func114 ?_
 intro ac β S
 refine S.bd 11 .nil write (fun ac w β h1 S=>?_) (fun ac w β h1 S=>?_)
 ·exact S.aq 7 .nil [aa 2] (b4 (by clear S;(simp [dD, *])))
 exact S.aq 9 .nil [aa 1] (b4 (by clear S;(simp [dD, *])))
theorem T1 {p:Prop} (h:p:=by clear S;(first|(unfold eV;rw [if_pos (by omega)])|(unfold eV;rw [if_neg (by omega)]))):p:=h
theorem Qf (w0:World) (t:List aR) (bh:aD aR) (bx:bQ w0 t bh) (page:Int):Calls Tryz.prog 273 [R t.length bh.1,aa page].toArray w0 (fun e w'=>e= .returned (GT.val (eV t page) ())/\bB ab w0 w'):=by
 refine Calls.run ab Tryz.func273 ?_
 intro ac β S
 have Bh:t.length<=4194304:=ae.le bx
 refine S.bd 16 (.cons (hf (t.length:Int) 1) (.cons (aE fun w hw=>fE w page 0 ((t.length:Int)-1)) .nil)) (!(a3 page 0 ((t.length:Int)-1))) (fun ac w β h1 S=>?_) (fun ac w β h1 S=>?_)
 ·have an:=cm h1
  have b7:=dn an
  exact S.aq 8 (.cons (aE fun w hw=>nK w) .nil) [GT.val (⟨-1,0⟩:aR) ()] (hX (p:=()) T1)
 have b1:=b9 h1
 have dJ:=cV b1
 exact S.aq 13 (.cons (cq (S.arg bx) page Tryz.underlying64) (.cons (dz (S.arg bx) 111 page.toNat) .nil)) [GT.val (el t page.toNat) ()] (hX (p:=()) T1)
theorem tM {p:Prop} (h:p:=by clear S;(unfold cW;(repeat' split)<;>first|rfl|(exfalso;omega)|(exfalso;simp_all;done)|(exfalso;simp_all;omega))):p:=h
theorem aai (w0:World) (inner:List aR) (jh:aD aR) (k5:bQ w0 inner jh) (page:Int) (need:Int):Calls Tryz.prog 223 [R inner.length jh.1,aa page,aa need].toArray w0 (fun e w'=>e= .returned (.tuple #[aa (cW inner page need).1,B (cW inner page need).2])/\bB ab w0 w'):=by
 refine Calls.run ab Tryz.func223 ?_
 intro ac β S
 have Bg:inner.length<=4194304:=ae.le k5
 refine S.aI 22 (.cons (aE fun w hw=>Qf w inner jh (bJ (S.arg k5) hw) page) .nil) ((eV inner page).page==(-1)) (fun ac w β h1 a8 S=>?_) (fun ac w β h1 a8 S=>?_)
 ·exact S.aq 20 .nil [aa (-1),B false] (jm (h_ (show(-1)=(cW inner page need).1 from tM)) (jB (show false=(cW inner page need).2 from tM)))
 refine S.bd 7 (.cons (aE fun w hw=>DM w (eV inner page).bg need) .nil) (!(fj (eV inner page).bg need)) (fun ac w β aF S=>?_) (fun ac w β aF S=>?_)
 ·have b1:=cm aF
  exact S.aq 13 .nil [aa (-1),B false] (jm (h_ (show(-1)=(cW inner page need).1 from tM)) (jB (show false=(cW inner page need).2 from tM)))
 have bm:=b9 aF
 have c6:=qU bm
 refine S.aI 5 .nil (need==0) (fun ac w β cE fl S=>?_) (fun ac w β cE fl S=>?_)
 ·exact S.aq 8 .nil [aa (-1),B false] (jm (h_ (show(-1)=(cW inner page need).1 from tM)) (jB (show false=(cW inner page need).2 from tM)))
 exact S.aq 12 .nil [aa (eV inner page).page,B true] (jm (h_ (show(eV inner page).page=(cW inner page need).1 from tM)) (jB (show true=(cW inner page need).2 from tM)))
theorem K2 {p:Prop} (h:p:=by clear S;(first|(unfold bR;rw [if_pos (by omega)];done)|(unfold bR;rw [if_pos (by omega)];first|rfl|(simp;done))|(unfold bR;rw [if_neg (by omega)];done)|(unfold bR;rw [if_neg (by omega)];first|rfl|(simp;done)))):p:=h
theorem aaf (w0:World) (m:Int) (g:Int):Calls Tryz.prog 175 [aa m,aa g].toArray w0 (fun e w'=>e= .returned (aa (bR m g))/\bB ab w0 w'):=by
 refine Calls.run ab Tryz.func175 ?_
 intro ac β S
 refine S.bd 12 (.cons (aE fun w hw=>fE w m 0 2) .nil) (!(a3 m 0 2)) (fun ac w β h1 S=>?_) (fun ac w β h1 S=>?_)
 ·have an:=cm h1
  have b7:=dn an
  exact S.aq 13 .nil [aa 0] (b4 K2)
 have b1:=b9 h1
 have dJ:=cV b1
 refine S.bd 6 (.cons (aE fun w hw=>fE w g 0 1) .nil) (!(a3 g 0 1)) (fun ac w β cS S=>?_) (fun ac w β cS S=>?_)
 ·have cE:=cm cS
  have fl:=dn cE
  exact S.aq 7 .nil [aa 0] (b4 K2)
 have ez:=b9 cS
 have iU:=cV ez
 exact S.aq 14 (.cons (cc 1 g) (.cons (OF (x:=m) (y:=2) ⟨by omega,by omega⟩) (.cons (cc (1+g) (m*2)) .nil))) [aa ((1+g)+(m*2))] (b4 K2)
theorem E6 {p:Prop} (h:p:=by clear S;(first|(rw [Rg (by omega) bc];done)|(rw [Rh (k:=k) (by omega) bc (CK (by assumption) (by assumption))];done))):p:=h
theorem ZY (w0:World) (b:List aH) (bD:aD aH) (hb:bQ w0 b bD) (tag:Int) (page:Int):Calls Tryz.prog 224 [R b.length bD.1,aa tag,aa page].toArray w0 (fun e w'=>e= .returned (.tuple #[GT.val (dt b tag page).1 (),B (dt b tag page).2])/\bB ab w0 w'):=by
 refine Calls.run ab Tryz.func224 ?_
 intro ac β S
 have kG:b.length<=4194304:=ae.le hb
 refine S.go 13 .nil fun ac w β S=>?_
 refine c8 (fun a4 ac w=>∃(k:Nat) (u:_) (N:_) (β:_),a4=b.length-k/\(k<=b.length)/\((b.take k).find? (fun e=>ic e tag page)=none)/\aj Tryz.prog Tryz.f224.ntmps w0 ab u N β ⟨[(0,.v (R b.length bD.1)),(1,.v (aa tag)),(2,.v (aa page)),(6,.p 0 0),(8,.v (aa (k:Int)))],[cg aH]⟩ ac w) _ ⟨0,_,_,_,rfl,cw,(by rfl),S.z⟩ ?_
 clear S
 rintro f1 a4 fm ac w ⟨k,u,N,β,rfl,hk,bc,S⟩
 refine S.rs fun S=>?_
 refine S.aI 9 .nil (decide ((k:Int)<(b.length:Int))) (fun ac w β aF cC S=>?_) (fun ac w β aF cC S=>?_)
 ·refine S.aI 15 (.cons (b5 (S.arg hb) k Tryz.underlying29) (.cons (cA (S.arg hb) 3 k 0 (aa (el b k).tag)) .nil)) ((el b k).tag==tag) (fun ac w β bm c6 S=>?_) (fun ac w β bm c6 S=>?_)
  ·refine S.aI 10 (.cons (b5 (S.arg hb) k Tryz.underlying29) (.cons (cA (S.arg hb) 3 k 1 (aa (el b k).page)) .nil)) ((el b k).page==page) (fun ac w β cE fl S=>?_) (fun ac w β cE fl S=>?_)
   ·exact S.aq 12 (.cons (b5 (S.arg hb) k Tryz.underlying29) (.cons (dz (S.arg hb) 138 k) .nil)) [GT.val (el b k) (),B true] (jm (congrArg (fun z=>GT.val z ()) (show(el b k)=(dt b tag page).1 from E6)) (jB (show true=(dt b tag page).2 from E6)))
   refine S.ge 9 (.cons (cc (k:Int) 1) .nil) f1 fun ac w β S=>fm.of (b.length-(k+1)) _ _ (by omega) ⟨k+1,_,_,_,rfl,?_,?_,S.z⟩
   ·exact cK
   ·clear S;(first|exact tq (by omega) bc (sT (by assumption))|exact tq (by omega) bc (wY (by assumption)))
  refine S.ge 19 (.cons (cc (k:Int) 1) .nil) f1 fun ac w β S=>fm.of (b.length-(k+1)) _ _ (by omega) ⟨k+1,_,_,_,rfl,?_,?_,S.z⟩
  ·exact cK
  ·clear S;(first|exact tq (by omega) bc (sT (by assumption))|exact tq (by omega) bc (wY (by assumption)))
 exact S.aq 14 (.cons (fY (s:=Instr.build 138 [].toArray) (v:= .agg [aa 0,aa 0,aa 0,aa 0].toArray) (fun w=>by kernel_rfl)) .nil) [GT.val (⟨0,0,0,0⟩:aH) (),B false] (jm (congrArg (fun z=>GT.val z ()) (show(⟨0,0,0,0⟩:aH)=(dt b tag page).1 from E6)) (jB (show false=(dt b tag page).2 from E6)))
theorem HQ (w0:World) (k:bS) (et:fx) (hk:bQ w0 k et) (page:Int):Calls Tryz.prog 274 [GT.val k et,aa page].toArray w0 (fun e w'=>e= .returned (B (decide ((0<=page/\page<k.known.length)/\page<k.aZ.length)))/\bB ab w0 w'):=by
 refine Calls.run ab Tryz.func274 ?_
 intro ac β S
 have q4:k.known.length<=4194304:=ae.le (ey.known (d:=k) hk)
 have q5:k.aZ.length<=4194304:=ae.le (ey.aZ (d:=k) hk)
 refine S.bd 15 (.cons (hf (k.known.length:Int) 1) (.cons (aE fun w hw=>fE w page 0 ((k.known.length:Int)-1)) .nil)) (a3 page 0 ((k.known.length:Int)-1)) (fun ac w β h1 S=>?_) (fun ac w β h1 S=>?_)
 ·have a8:=cV h1
  exact S.aq 10 .nil [B (decide (page<(k.aZ.length:Int)))] (a6 (by clear S;(rw [Bool.eq_iff_iff];simp;omega)))
 have b7:=dn h1
 exact S.aq 10 .nil [B false] (a6 (by clear S;(rw [Bool.eq_iff_iff];simp;omega)))
theorem yQ {p:Prop} (h:p:=by clear S;(unfold aV;(repeat' split)<;>first|rfl|(exfalso;omega)|(exfalso;simp_all;done)|(exfalso;simp_all;omega)|(simp_all;done))):p:=h
theorem P4 (w0:World) (k:bS) (et:fx) (hk:bQ w0 k et) (page:Int):Calls Tryz.prog 226 [GT.val k et,aa page].toArray w0 (fun e w'=>e= .returned (.tuple #[GT.val (aV k page).1 (),B (aV k page).2])/\bB ab w0 w'):=by
 refine Calls.run ab Tryz.func226 ?_
 intro ac β S
 have q4:k.known.length<=4194304:=ae.le (ey.known (d:=k) hk)
 have q5:k.aZ.length<=4194304:=ae.le (ey.aZ (d:=k) hk)
 refine S.bd 15 (.cons (aE fun w hw=>HQ w k et (bJ (S.arg hk) hw) page) .nil) (!(decide ((0<=page/\page<k.known.length)/\page<k.aZ.length))) (fun ac w β h1 S=>?_) (fun ac w β h1 S=>?_)
 ·have an:=cm h1
  have b7:=of_decide_eq_false an
  exact S.aq 18 (.cons (aE fun w hw=>nK w) .nil) [GT.val (⟨-1,0⟩:aR) (),B false] (jm (congrArg (fun z=>GT.val z ()) (show(⟨-1,0⟩:aR)=(aV k page).1 from yQ)) (jB (show false=(aV k page).2 from yQ)))
 have b1:=b9 h1
 have dJ:=of_decide_eq_true b1
 refine S.bd 9 (.cons (cq (ey.known (d:=k) (S.arg hk)) page Tryz.underlying39) (.cons (cj (ey.known (d:=k) (S.arg hk)) 4 page.toNat) .nil)) (!(el k.known page.toNat)) (fun ac w β cS S=>?_) (fun ac w β cS S=>?_)
 ·have cE:=cm cS
  exact S.aq 9 (.cons (aE fun w hw=>nK w) .nil) [GT.val (⟨-1,0⟩:aR) (),B false] (jm (congrArg (fun z=>GT.val z ()) (show(⟨-1,0⟩:aR)=(aV k page).1 from yQ)) (jB (show false=(aV k page).2 from yQ)))
 have dc:=b9 cS
 exact S.aq 15 (.cons (cq (ey.aZ (d:=k) (S.arg hk)) page Tryz.underlying64) (.cons (dz (ey.aZ (d:=k) (S.arg hk)) 111 page.toNat) .nil)) [GT.val (el k.aZ page.toNat) (),B true] (jm (congrArg (fun z=>GT.val z ()) (show(el k.aZ page.toNat)=(aV k page).1 from yQ)) (jB (show true=(aV k page).2 from yQ)))
theorem yR {p:Prop} (h:p:=by clear S;(first|rw [My (by omega)]|rw [U8 (he.trans (Ms (by omega)))]|rw [Mz (by omega),he,U3 (by omega) (kF.trans (Mu (by omega) (by assumption)))])):p:=h
theorem Qc (w0:World) (h:ah) (ai:b_) (aX:bQ w0 h ai) (page:Int):Calls Tryz.prog 320 [GT.val h ai,aa page].toArray w0 (fun e w'=>e= .returned (.tuple #[aa (ea h page).1,aa (ea h page).2])/\bB ab w0 w'):=by
 refine Calls.run ab Tryz.func320 ?_
 intro ac β S
 have lZ:h.mem.length<=4194304:=ae.le (bu.mem (d:=h) aX)
 have l0:h.I.length<=4194304:=ae.le (bu.I (d:=h) aX)
 have lX:h.buf.length<=4194304:=ae.le (bu.buf (d:=h) aX)
 have lY:h.ag.length<=4194304:=ae.le (bu.ag (d:=h) aX)
 refine S.go 14 .nil fun ac w β S=>?_
 refine c8 (fun a4 ac w=>∃(i:Nat) (u:_) (N:_) (β:_),a4=h.I.length-i/\(i<=h.I.length)/\(iz h.I page 0=iz h.I page i)/\aj Tryz.prog Tryz.f320.ntmps w0 ab u N β ⟨[(1,.v (aa page)),(2,.p 0 0),(6,.v (aa (i:Int)))],[GT.cells h ai]⟩ ac w) _ ⟨0,_,_,_,rfl,cw,cw,S.z⟩ ?_
 clear S
 rintro f1 a4 fm ac w ⟨i,u,N,β,rfl,hi,he,S⟩
 refine S.rs fun S=>?_
 refine S.aI 9 .nil (decide ((i:Int)<(h.I.length:Int))) (fun ac w β aF cC S=>?_) (fun ac w β aF cC S=>?_)
 ·refine S.aI 5 .nil (decide (page>=0)) (fun ac w β bm c6 S=>?_) (fun ac w β bm c6 S=>?_)
  ·refine S.go 11 .nil fun ac w β S=>?_
   refine c8 (fun a4 ac w=>∃(k:Nat) (u:_) (N:_) (β:_),a4=(el h.I i).outer.length-k/\(k<=(el h.I i).outer.length)/\(j2 (el h.I i).outer page 0=j2 (el h.I i).outer page k)/\aj Tryz.prog Tryz.f320.ntmps w0 ab u N β ⟨[(1,.v (aa page)),(2,.p 0 0),(6,.v (aa (i:Int))),(7,.v (aa (k:Int)))],[GT.cells h ai]⟩ ac w) _ ⟨0,_,_,_,rfl,cw,cw,S.z⟩ ?_
   clear S
   rintro f7 a4 aeJ ac w ⟨k,u,N,β,rfl,hk,kF,S⟩
   refine S.rs fun S=>?_
   have Bf:(el h.I i).outer.length<=4194304:=ae.le (aU.outer (d:=el h.I i) (ae.el (bu.I (d:=h) aX) i (by omega)))
   have uR:(el h.I i).outer.length<=4194304:=ae.le (aU.outer (d:=(el h.I i)) (ae.el (bu.I (d:=h) (S.arg aX)) i (by omega)))
   refine S.aI 14 (.cons (b5 (bu.I (d:=h) (S.arg aX)) i Tryz.underlying28) (.cons (cA (bu.I (d:=h) (S.arg aX)) 64 i 0 (R (el h.I i).outer.length (ai.I.2 i).outer.1)) .nil)) (decide ((k:Int)<((el h.I i).outer.length:Int))) (fun ac w β c2 eb S=>?_) (fun ac w β c2 eb S=>?_)
   ·refine S.aI 21 (.cons (b5 (bu.I (d:=h) (S.arg aX)) i Tryz.underlying28) (.cons (cA (bu.I (d:=h) (S.arg aX)) 64 i 0 (R (el h.I i).outer.length (ai.I.2 i).outer.1)) (.cons (b5 (aU.outer (d:=(el h.I i)) (ae.el (bu.I (d:=h) (S.arg aX)) i (by omega))) k Tryz.underlying64) (.cons (cA (aU.outer (d:=(el h.I i)) (ae.el (bu.I (d:=h) (S.arg aX)) i (by omega))) 3 k 0 (aa (el (el h.I i).outer k).page)) .nil)))) ((el (el h.I i).outer k).page==page) (fun ac w β ec hC S=>?_) (fun ac w β ec hC S=>?_)
    ·exact S.aq 10 .nil [aa (i:Int),aa (k:Int)] (jm (h_ (show(i:Int)=(ea h page).1 from yR)) (h_ (show(k:Int)=(ea h page).2 from yR)))
    refine S.ge 9 (.cons (cc (k:Int) 1) .nil) f7 fun ac w β S=>aeJ.of ((el h.I i).outer.length-(k+1)) _ _ (by omega) ⟨k+1,_,_,_,rfl,?_,?_,S.z⟩
    ·exact cK
    ·clear S;exact kF.trans (Mv (by omega) (by assumption))
   refine S.ge 12 (.cons (cc (i:Int) 1) .nil) f1 fun ac w β S=>fm.of (h.I.length-(i+1)) _ _ (by omega) ⟨i+1,_,_,_,rfl,?_,?_,S.z⟩
   ·exact cK
   ·clear S;exact he.trans (U4 (by omega) (kF.trans (Mt (by omega))))
  exact S.aq 13 .nil [aa (-1),aa (-1)] (jm (h_ (show(-1)=(ea h page).1 from yR)) (h_ (show(-1)=(ea h page).2 from yR)))
 exact S.aq 18 .nil [aa (-1),aa (-1)] (jm (h_ (show(-1)=(ea h page).1 from yR)) (h_ (show(-1)=(ea h page).2 from yR)))
theorem P9 (w0:World) (h:ah) (ai:b_) (aX:bQ w0 h ai):Calls Tryz.prog 319 [GT.val h ai].toArray w0 (dw ab w0 (en h:List Int)):=by
 refine Calls.run ab Tryz.func319 ?_
 intro ac β S
 have lZ:h.mem.length<=4194304:=ae.le (bu.mem (d:=h) aX)
 have l0:h.I.length<=4194304:=ae.le (bu.I (d:=h) aX)
 have lX:h.buf.length<=4194304:=ae.le (bu.buf (d:=h) aX)
 have lY:h.ag.length<=4194304:=ae.le (bu.ag (d:=h) aX)
 refine S.go 8 .nil fun ac w β S=>S.gE (α:=Int) (d:=7) fun ac w N af br S up aA d4=>?_
 clear up d4
 refine S.go 10 .nil fun ac w β S=>?_
 refine c8 (fun a4 ac w=>∃(k:Nat) (acc:List Int) (bM:_) (cT:_) (u:_) (N:_) (β:_),a4=h.mem.length-k/\(k<=h.mem.length)/\(acc=lO k (fun p=>decide ((ea h p).1<0)))/\aj Tryz.prog Tryz.f319.ntmps w0 ab u N β ⟨[(1,.p 0 0),(3,.v (R acc.length bM.1)),(4,.v (aa (k:Int)))],[GT.cells h ai]⟩ ac w/\ad w0 ab u N cT acc bM) _ ⟨0,([]:List Int),af,br,_,_,_,rfl,cw,(by rfl),S.z,aA⟩ ?_
 clear S aA
 rintro f8 a4 e0 ac w ⟨k,acc,bM,cT,u,N,β,rfl,hk,bz,S,ao⟩
 refine S.rs fun S=>?_
 have gI:acc.length<=k:=by rw [bz];exact yN _ _
 refine S.aI 10 .nil (decide ((k:Int)<(h.mem.length:Int))) (fun ac w β c2 eb S=>?_) (fun ac w β c2 eb S=>?_)
 ·refine S.aI 23 (.cons (aE fun w hw=>Qc w h ai (bJ (S.arg aX) hw) (k:Int)) .nil) (decide ((ea h (k:Int)).1<0)) (fun ac w β ec hC S=>?_) (fun ac w β ec hC S=>?_)
  ·refine S.go 4 .nil fun ac w β S=>S.h3 (α:=Int) (x:=(k:Int)) (p:=()) (F:=ab) ⟨by omega,by omega⟩ (fun b h=>False.elim h) (fun b h=>False.elim h) (d:=25) fun ac w N n6 pT S up gK d17=>?_
   replace ao:=ao.up up
   clear up d17
   refine S.kq (α:=Int) ao gK.ak (fun _ _ h=>h) (by':=8) (d:=26) (lx:=acc.length) (ly:=1) rfl rfl (show _<=4194304 by simp only [List.length_append,List.length_cons,List.length_nil];omega) fun ac w N dy h4 S up il d22=>?_
   clear up d22
   refine S.ge 9 (.cons (cc (k:Int) 1) .nil) f8 fun ac w β S=>e0.of (h.mem.length-(k+1)) _ _ (by omega) ⟨k+1,(acc++[(k:Int)]),dy,h4,_,_,_,rfl,?_,?_,S.z,il⟩
   ·exact cK
   ·clear S;(first|(rw [mD (by first|assumption|(simp [*];done)|(simp;omega)),bz];done)|(rw [mC (by first|assumption|(simp [*];done)|(simp;omega)),bz];done)|(rw [mD (by simp_all<;>fail),bz];done)|(rw [mC (by simp_all<;>fail),bz];done))
  refine S.ge 9 (.cons (cc (k:Int) 1) .nil) f8 fun ac w β S=>e0.of (h.mem.length-(k+1)) _ _ (by omega) ⟨k+1,acc,bM,cT,_,_,_,rfl,?_,?_,S.z,ao⟩
  ·exact cK
  ·clear S;(first|(rw [mD (by first|assumption|(simp [*];done)|(simp;omega)),bz];done)|(rw [mC (by first|assumption|(simp [*];done)|(simp;omega)),bz];done)|(rw [mD (by simp_all<;>fail),bz];done)|(rw [mC (by simp_all<;>fail),bz];done))
 refine S.bo 13 .nil [R acc.length bM.1] fun ac w β S=>?_
 exact cy S (show en h=acc by clear S;(unfold en;rw [bz,show h.mem.length=k by omega])) rfl ao
end Go.Proofs.YtjlocpdfcanlhaaGreat
