/- The walks: what each function that the laws reach computes (part 1). -/
import Derived.Test.YtjlocpdfcanlhaaGreatA1
import Derived.Test.YtjlocpdfcanlhaaGreatA3
import Derived.Test.YtjlocpdfcanlhaaGreatA4
import Derived.Test.YtjlocpdfcanlhaaGreatProg
import Derived.KernelRfl
namespace Go.Proofs.YtjlocpdfcanlhaaGreat
open Go
set_option linter.unusedVariables false
set_option linter.unusedSimpArgs false
set_option maxRecDepth 100000
set_option maxHeartbeats 2000000
theorem Hf (w0:World) (a:List Int) (pa:aC Int) (ay:GT.rd kU (fc w0.heap.size) w0 a pa) (left:Int) (ft:-1<=left) (gP:left<=4194304):Calls Tryz.prog 98 [R a.length pa.1,aa left].toArray w0 (fun e w'=>e= .returned (aa (cf (aS.aW a) left))/\bu ab w0 w'):=by
 refine Calls.run ab Tryz.func98 ?_
 intro ac β S
 have ed:=VO a
 have pk:=gL (aS.aW a) left
 have fy:a.length<=9223372036854775807:=af.le ay
 refine S.aI 21 (.cons (g8 left (a.length:Int)) .nil) (decide ((left-(a.length:Int))<0)) (fun ac w β h1 a8 S=>?_) (fun ac w β h1 a8 S=>?_)
 ·exact S.aq 7 .nil [aa (-1)] (b3 (by clear S;omega))
 exact S.aq 10 .nil [aa (left-(a.length:Int))] (b3 (by clear S;omega))
theorem Ku {p:Prop} (h:p:=by clear S;(first|omega|(have ph:=FX (xs:=a) (k:=k) (by omega);omega)|(have JT:=j0 (xs:=a) (k:=k) (by omega);have vN:=hK a (k+1);omega))):p:=h
theorem PF (w0:World) (a:List (List Int)) (pa:aC (List Int)) (ay:GT.rd kU (fc w0.heap.size) w0 a pa) (left:Int) (ft:-1<=left) (gP:left<=4194304):Calls Tryz.prog 25 [R a.length pa.1,aa left].toArray w0 (fun e w'=>e= .returned (aa (cf (aS.aW a) left))/\bu ab w0 w'):=by
 refine Calls.run ab Tryz.func25 ?_
 intro ac β S
 have ed:=ns a
 have pk:=gL (aS.aW a) left
 have fy:a.length<=9223372036854775807:=af.le ay
 refine S.aI 21 (.cons (g8 left (a.length:Int)) .nil) (decide ((left-(a.length:Int))<0)) (fun ac w β h1 a8 S=>?_) (fun ac w β h1 a8 S=>?_)
 ·exact S.aq 7 .nil [aa (-1)] (b3 Ku)
 refine S.go 10 .nil fun ac w β S=>?_
 refine dc (fun a5 ac w=>∃(k:Nat) (l:Int) (u:_) (N:_) (β:_),a5=a.length-k/\(k<=a.length)/\(l=left-a.length-g9 (a.take k))/\(0<=l)/\aj Tryz.prog Tryz.f25.ntmps w0 ab u N β ⟨[(0,.v (R a.length pa.1)),(1,.v (aa l)),(5,.v (aa (k:Int)))],[]⟩ ac w) _ ⟨0,(left-(a.length:Int)),_,_,_,rfl,cv,(by simp [tX]),cv,S.z⟩ ?_
 clear S
 rintro f3 a5 iw ac w ⟨k,l,u,N,β,rfl,hk,hl,Ju,S⟩
 refine S.rs fun S=>?_
 have Jw:=hK a k
 refine S.aI 9 .nil (decide ((k:Int)<(a.length:Int))) (fun ac w β bl c7 S=>?_) (fun ac w β bl c7 S=>?_)
 ·have sQ:=gL (aS.aW (el a k)) l
  refine S.aI 22 (.cons (b6 (S.arg ay) k Tryz.underlying22) (.cons (cj (S.arg ay) 38 k) (.cons (aE fun w hw=>Hf w (el a k) (pa.2 k) (bN (af.el (S.arg ay) k (by omega)) hw) l (by omega) (by omega)) .nil))) (decide ((cf (aS.aW (el a k)) l)<0)) (fun ac w β db fx S=>?_) (fun ac w β db fx S=>?_)
  ·exact S.aq 7 .nil [aa (-1)] (b3 Ku)
  refine S.ge 9 (.cons (cg (k:Int) 1) .nil) f3 fun ac w β S=>iw.of (a.length-(k+1)) _ _ (by omega) ⟨k+1,(cf (aS.aW (el a k)) l),_,_,_,rfl,?_,?_,?_,S.z⟩
  ·exact cO
  ·clear S;(rw [j0 (by omega)];omega)
  ·clear S;omega
 exact S.aq 13 .nil [aa l] (b3 Ku)
theorem Dd (w0:World) (a:List aQ) (pa:aC aQ) (ay:GT.rd kU (fc w0.heap.size) w0 a pa) (left:Int) (ft:-1<=left) (gP:left<=4194304):Calls Tryz.prog 213 [R a.length pa.1,aa left].toArray w0 (fun e w'=>e= .returned (aa (cf (aS.aW a) left))/\bu ab w0 w'):=by
 refine Calls.run ab Tryz.func213 ?_
 intro ac β S
 have ed:=VR a
 have pk:=gL (aS.aW a) left
 have fy:a.length<=9223372036854775807:=af.le ay
 refine S.aI 21 (.cons (g8 left (a.length:Int)) .nil) (decide ((left-(a.length:Int))<0)) (fun ac w β h1 a8 S=>?_) (fun ac w β h1 a8 S=>?_)
 ·exact S.aq 7 .nil [aa (-1)] (b3 (by clear S;omega))
 exact S.aq 10 .nil [aa (left-(a.length:Int))] (b3 (by clear S;omega))
theorem PD (w0:World) (a:List Bool) (pa:aC Bool) (ay:GT.rd kU (fc w0.heap.size) w0 a pa) (left:Int) (ft:-1<=left) (gP:left<=4194304):Calls Tryz.prog 214 [R a.length pa.1,aa left].toArray w0 (fun e w'=>e= .returned (aa (cf (aS.aW a) left))/\bu ab w0 w'):=by
 refine Calls.run ab Tryz.func214 ?_
 intro ac β S
 have ed:=VN a
 have pk:=gL (aS.aW a) left
 have fy:a.length<=9223372036854775807:=af.le ay
 refine S.aI 21 (.cons (g8 left (a.length:Int)) .nil) (decide ((left-(a.length:Int))<0)) (fun ac w β h1 a8 S=>?_) (fun ac w β h1 a8 S=>?_)
 ·exact S.aq 7 .nil [aa (-1)] (b3 (by clear S;omega))
 exact S.aq 10 .nil [aa (left-(a.length:Int))] (b3 (by clear S;omega))
theorem Y4 (w0:World) (a:List c_) (pa:aC c_) (ay:GT.rd kU (fc w0.heap.size) w0 a pa) (left:Int) (ft:-1<=left) (gP:left<=4194304):Calls Tryz.prog 332 [R a.length pa.1,aa left].toArray w0 (fun e w'=>e= .returned (aa (cf (aS.aW a) left))/\bu ab w0 w'):=by
 refine Calls.run ab Tryz.func332 ?_
 intro ac β S
 have ed:=VQ a
 have pk:=gL (aS.aW a) left
 have fy:a.length<=9223372036854775807:=af.le ay
 refine S.aI 21 (.cons (g8 left (a.length:Int)) .nil) (decide ((left-(a.length:Int))<0)) (fun ac w β h1 a8 S=>?_) (fun ac w β h1 a8 S=>?_)
 ·exact S.aq 7 .nil [aa (-1)] (b3 (by clear S;omega))
 exact S.aq 10 .nil [aa (left-(a.length:Int))] (b3 (by clear S;omega))
theorem Y1 (w0:World) (a:ax) (pa:c6) (ay:GT.rd kU (fc w0.heap.size) w0 a pa) (left:Int) (ft:-1<=left) (gP:left<=4194304):Calls Tryz.prog 299 [GT.val a pa,aa left].toArray w0 (fun e w'=>e= .returned (aa (cf (aS.aW a) left))/\bu ab w0 w'):=by
 refine Calls.run ab Tryz.func299 ?_
 intro ac β S
 have ed:=y7 a
 have pk:=gL (aS.aW a) left
 have hv:=gL (aS.aW a.prog) left
 refine S.aI 22 (.cons (aE fun w hw=>Y4 w a.prog pa.prog (bN (az.prog (d:=a) (S.arg ay)) hw) left (by omega) (by omega)) .nil) (decide ((cf (aS.aW a.prog) left)<0)) (fun ac w β an b4 S=>?_) (fun ac w β an b4 S=>?_)
 ·exact S.aq 7 .nil [aa (-1)] (b3 (by clear S;omega))
 have o2:=gL (aS.aW a.written) (cf (aS.aW a.prog) left)
 refine S.aI 19 (.cons (aE fun w hw=>Dd w a.written pa.written (bN (az.written (d:=a) (S.arg ay)) hw) (cf (aS.aW a.prog) left) (by omega) (by omega)) .nil) (decide ((cf (aS.aW a.written) (cf (aS.aW a.prog) left))<0)) (fun ac w β bl c7 S=>?_) (fun ac w β bl c7 S=>?_)
 ·exact S.aq 7 .nil [aa (-1)] (b3 (by clear S;omega))
 have sQ:=gL (aS.aW a.live) (cf (aS.aW a.written) (cf (aS.aW a.prog) left))
 refine S.aI 19 (.cons (aE fun w hw=>Dd w a.live pa.live (bN (az.live (d:=a) (S.arg ay)) hw) (cf (aS.aW a.written) (cf (aS.aW a.prog) left)) (by omega) (by omega)) .nil) (decide ((cf (aS.aW a.live) (cf (aS.aW a.written) (cf (aS.aW a.prog) left)))<0)) (fun ac w β db fx S=>?_) (fun ac w β db fx S=>?_)
 ·exact S.aq 7 .nil [aa (-1)] (b3 (by clear S;omega))
 have CX:=gL (aS.aW a.seen) (cf (aS.aW a.live) (cf (aS.aW a.written) (cf (aS.aW a.prog) left)))
 refine S.aI 19 (.cons (aE fun w hw=>Hf w a.seen pa.seen (bN (az.seen (d:=a) (S.arg ay)) hw) (cf (aS.aW a.live) (cf (aS.aW a.written) (cf (aS.aW a.prog) left))) (by omega) (by omega)) .nil) (decide ((cf (aS.aW a.seen) (cf (aS.aW a.live) (cf (aS.aW a.written) (cf (aS.aW a.prog) left))))<0)) (fun ac w β eL h8 S=>?_) (fun ac w β eL h8 S=>?_)
 ·exact S.aq 7 .nil [aa (-1)] (b3 (by clear S;omega))
 exact S.aq 10 .nil [aa (cf (aS.aW a.seen) (cf (aS.aW a.live) (cf (aS.aW a.written) (cf (aS.aW a.prog) left))))] (b3 (by clear S;omega))
theorem Kt {p:Prop} (h:p:=by clear S;(first|omega|(have ph:=FX (xs:=a) (k:=k) (by omega);omega)|(have JT:=j0 (xs:=a) (k:=k) (by omega);have vN:=hK a (k+1);omega))):p:=h
theorem Y2 (w0:World) (a:List ax) (pa:aC ax) (ay:GT.rd kU (fc w0.heap.size) w0 a pa) (left:Int) (ft:-1<=left) (gP:left<=4194304):Calls Tryz.prog 215 [R a.length pa.1,aa left].toArray w0 (fun e w'=>e= .returned (aa (cf (aS.aW a) left))/\bu ab w0 w'):=by
 refine Calls.run ab Tryz.func215 ?_
 intro ac β S
 have ed:=ns a
 have pk:=gL (aS.aW a) left
 have fy:a.length<=9223372036854775807:=af.le ay
 refine S.aI 21 (.cons (g8 left (a.length:Int)) .nil) (decide ((left-(a.length:Int))<0)) (fun ac w β h1 a8 S=>?_) (fun ac w β h1 a8 S=>?_)
 ·exact S.aq 7 .nil [aa (-1)] (b3 Kt)
 refine S.go 10 .nil fun ac w β S=>?_
 refine dc (fun a5 ac w=>∃(k:Nat) (l:Int) (u:_) (N:_) (β:_),a5=a.length-k/\(k<=a.length)/\(l=left-a.length-g9 (a.take k))/\(0<=l)/\aj Tryz.prog Tryz.f215.ntmps w0 ab u N β ⟨[(0,.v (R a.length pa.1)),(1,.v (aa l)),(5,.v (aa (k:Int)))],[]⟩ ac w) _ ⟨0,(left-(a.length:Int)),_,_,_,rfl,cv,(by simp [tX]),cv,S.z⟩ ?_
 clear S
 rintro f3 a5 iw ac w ⟨k,l,u,N,β,rfl,hk,hl,Ju,S⟩
 refine S.rs fun S=>?_
 have Jw:=hK a k
 refine S.aI 9 .nil (decide ((k:Int)<(a.length:Int))) (fun ac w β bl c7 S=>?_) (fun ac w β bl c7 S=>?_)
 ·have sQ:=gL (aS.aW (el a k)) l
  refine S.aI 22 (.cons (b6 (S.arg ay) k Tryz.underlying120) (.cons (dy (S.arg ay) 233 k) (.cons (aE fun w hw=>Y1 w (el a k) (pa.2 k) (bN (af.el (S.arg ay) k (by omega)) hw) l (by omega) (by omega)) .nil))) (decide ((cf (aS.aW (el a k)) l)<0)) (fun ac w β db fx S=>?_) (fun ac w β db fx S=>?_)
  ·exact S.aq 7 .nil [aa (-1)] (b3 Kt)
  refine S.ge 9 (.cons (cg (k:Int) 1) .nil) f3 fun ac w β S=>iw.of (a.length-(k+1)) _ _ (by omega) ⟨k+1,(cf (aS.aW (el a k)) l),_,_,_,rfl,?_,?_,?_,S.z⟩
  ·exact cO
  ·clear S;(rw [j0 (by omega)];omega)
  ·clear S;omega
 exact S.aq 13 .nil [aa l] (b3 Kt)
theorem Y5 (w0:World) (a:bQ) (pa:fm) (ay:GT.rd kU (fc w0.heap.size) w0 a pa) (left:Int) (ft:-1<=left) (gP:left<=4194304):Calls Tryz.prog 300 [GT.val a pa,aa left].toArray w0 (fun e w'=>e= .returned (aa (cf (aS.aW a) left))/\bu ab w0 w'):=by
 refine Calls.run ab Tryz.func300 ?_
 intro ac β S
 have ed:=FW a
 have pk:=gL (aS.aW a) left
 have hv:=gL (aS.aW a.known) left
 refine S.aI 22 (.cons (aE fun w hw=>PD w a.known pa.known (bN (er.known (d:=a) (S.arg ay)) hw) left (by omega) (by omega)) .nil) (decide ((cf (aS.aW a.known) left)<0)) (fun ac w β an b4 S=>?_) (fun ac w β an b4 S=>?_)
 ·exact S.aq 7 .nil [aa (-1)] (b3 (by clear S;omega))
 have o2:=gL (aS.aW a.aY) (cf (aS.aW a.known) left)
 refine S.aI 19 (.cons (aE fun w hw=>Dd w a.aY pa.aY (bN (er.aY (d:=a) (S.arg ay)) hw) (cf (aS.aW a.known) left) (by omega) (by omega)) .nil) (decide ((cf (aS.aW a.aY) (cf (aS.aW a.known) left))<0)) (fun ac w β bl c7 S=>?_) (fun ac w β bl c7 S=>?_)
 ·exact S.aq 7 .nil [aa (-1)] (b3 (by clear S;omega))
 exact S.aq 10 .nil [aa (cf (aS.aW a.aY) (cf (aS.aW a.known) left))] (b3 (by clear S;omega))
theorem Kv {p:Prop} (h:p:=by clear S;(first|omega|(have ph:=FX (xs:=a) (k:=k) (by omega);omega)|(have JT:=j0 (xs:=a) (k:=k) (by omega);have vN:=hK a (k+1);omega))):p:=h
theorem Y6 (w0:World) (a:List bQ) (pa:aC bQ) (ay:GT.rd kU (fc w0.heap.size) w0 a pa) (left:Int) (ft:-1<=left) (gP:left<=4194304):Calls Tryz.prog 216 [R a.length pa.1,aa left].toArray w0 (fun e w'=>e= .returned (aa (cf (aS.aW a) left))/\bu ab w0 w'):=by
 refine Calls.run ab Tryz.func216 ?_
 intro ac β S
 have ed:=ns a
 have pk:=gL (aS.aW a) left
 have fy:a.length<=9223372036854775807:=af.le ay
 refine S.aI 21 (.cons (g8 left (a.length:Int)) .nil) (decide ((left-(a.length:Int))<0)) (fun ac w β h1 a8 S=>?_) (fun ac w β h1 a8 S=>?_)
 ·exact S.aq 7 .nil [aa (-1)] (b3 Kv)
 refine S.go 10 .nil fun ac w β S=>?_
 refine dc (fun a5 ac w=>∃(k:Nat) (l:Int) (u:_) (N:_) (β:_),a5=a.length-k/\(k<=a.length)/\(l=left-a.length-g9 (a.take k))/\(0<=l)/\aj Tryz.prog Tryz.f216.ntmps w0 ab u N β ⟨[(0,.v (R a.length pa.1)),(1,.v (aa l)),(5,.v (aa (k:Int)))],[]⟩ ac w) _ ⟨0,(left-(a.length:Int)),_,_,_,rfl,cv,(by simp [tX]),cv,S.z⟩ ?_
 clear S
 rintro f3 a5 iw ac w ⟨k,l,u,N,β,rfl,hk,hl,Ju,S⟩
 refine S.rs fun S=>?_
 have Jw:=hK a k
 refine S.aI 9 .nil (decide ((k:Int)<(a.length:Int))) (fun ac w β bl c7 S=>?_) (fun ac w β bl c7 S=>?_)
 ·have sQ:=gL (aS.aW (el a k)) l
  refine S.aI 22 (.cons (b6 (S.arg ay) k Tryz.underlying121) (.cons (dy (S.arg ay) 236 k) (.cons (aE fun w hw=>Y5 w (el a k) (pa.2 k) (bN (af.el (S.arg ay) k (by omega)) hw) l (by omega) (by omega)) .nil))) (decide ((cf (aS.aW (el a k)) l)<0)) (fun ac w β db fx S=>?_) (fun ac w β db fx S=>?_)
  ·exact S.aq 7 .nil [aa (-1)] (b3 Kv)
  refine S.ge 9 (.cons (cg (k:Int) 1) .nil) f3 fun ac w β S=>iw.of (a.length-(k+1)) _ _ (by omega) ⟨k+1,(cf (aS.aW (el a k)) l),_,_,_,rfl,?_,?_,?_,S.z⟩
  ·exact cO
  ·clear S;(rw [j0 (by omega)];omega)
  ·clear S;omega
 exact S.aq 13 .nil [aa l] (b3 Kv)
theorem Y7 (w0:World) (a:aO) (pa:fj) (ay:GT.rd kU (fc w0.heap.size) w0 a pa) (left:Int) (ft:-1<=left) (gP:left<=4194304):Calls Tryz.prog 99 [GT.val a pa,aa left].toArray w0 (fun e w'=>e= .returned (aa (cf (aS.aW a) left))/\bu ab w0 w'):=by
 refine Calls.run ab Tryz.func99 ?_
 intro ac β S
 have ed:=tW a
 have pk:=gL (aS.aW a) left
 have hv:=gL (aS.aW a.outer) left
 refine S.aI 22 (.cons (aE fun w hw=>Dd w a.outer pa.outer (bN (aU.outer (d:=a) (S.arg ay)) hw) left (by omega) (by omega)) .nil) (decide ((cf (aS.aW a.outer) left)<0)) (fun ac w β an b4 S=>?_) (fun ac w β an b4 S=>?_)
 ·exact S.aq 7 .nil [aa (-1)] (b3 (by clear S;omega))
 have o2:=gL (aS.aW a.out) (cf (aS.aW a.outer) left)
 refine S.aI 19 (.cons (aE fun w hw=>PF w a.out pa.out (bN (aU.out (d:=a) (S.arg ay)) hw) (cf (aS.aW a.outer) left) (by omega) (by omega)) .nil) (decide ((cf (aS.aW a.out) (cf (aS.aW a.outer) left))<0)) (fun ac w β bl c7 S=>?_) (fun ac w β bl c7 S=>?_)
 ·exact S.aq 7 .nil [aa (-1)] (b3 (by clear S;omega))
 have sQ:=gL (aS.aW a.aT) (cf (aS.aW a.out) (cf (aS.aW a.outer) left))
 refine S.aI 19 (.cons (aE fun w hw=>PD w a.aT pa.aT (bN (aU.aT (d:=a) (S.arg ay)) hw) (cf (aS.aW a.out) (cf (aS.aW a.outer) left)) (by omega) (by omega)) .nil) (decide ((cf (aS.aW a.aT) (cf (aS.aW a.out) (cf (aS.aW a.outer) left)))<0)) (fun ac w β db fx S=>?_) (fun ac w β db fx S=>?_)
 ·exact S.aq 7 .nil [aa (-1)] (b3 (by clear S;omega))
 have CX:=gL (aS.aW a.U) (cf (aS.aW a.aT) (cf (aS.aW a.out) (cf (aS.aW a.outer) left)))
 refine S.aI 19 (.cons (aE fun w hw=>Y2 w a.U pa.U (bN (aU.U (d:=a) (S.arg ay)) hw) (cf (aS.aW a.aT) (cf (aS.aW a.out) (cf (aS.aW a.outer) left))) (by omega) (by omega)) .nil) (decide ((cf (aS.aW a.U) (cf (aS.aW a.aT) (cf (aS.aW a.out) (cf (aS.aW a.outer) left))))<0)) (fun ac w β eL h8 S=>?_) (fun ac w β eL h8 S=>?_)
 ·exact S.aq 7 .nil [aa (-1)] (b3 (by clear S;omega))
 have alS:=gL (aS.aW a.outs) (cf (aS.aW a.U) (cf (aS.aW a.aT) (cf (aS.aW a.out) (cf (aS.aW a.outer) left))))
 refine S.aI 19 (.cons (aE fun w hw=>Hf w a.outs pa.outs (bN (aU.outs (d:=a) (S.arg ay)) hw) (cf (aS.aW a.U) (cf (aS.aW a.aT) (cf (aS.aW a.out) (cf (aS.aW a.outer) left)))) (by omega) (by omega)) .nil) (decide ((cf (aS.aW a.outs) (cf (aS.aW a.U) (cf (aS.aW a.aT) (cf (aS.aW a.out) (cf (aS.aW a.outer) left)))))<0)) (fun ac w β h9 lM S=>?_) (fun ac w β h9 lM S=>?_)
 ·exact S.aq 7 .nil [aa (-1)] (b3 (by clear S;omega))
 have alU:=gL (aS.aW a.tables) (cf (aS.aW a.outs) (cf (aS.aW a.U) (cf (aS.aW a.aT) (cf (aS.aW a.out) (cf (aS.aW a.outer) left)))))
 refine S.aI 19 (.cons (aE fun w hw=>Y6 w a.tables pa.tables (bN (aU.tables (d:=a) (S.arg ay)) hw) (cf (aS.aW a.outs) (cf (aS.aW a.U) (cf (aS.aW a.aT) (cf (aS.aW a.out) (cf (aS.aW a.outer) left))))) (by omega) (by omega)) .nil) (decide ((cf (aS.aW a.tables) (cf (aS.aW a.outs) (cf (aS.aW a.U) (cf (aS.aW a.aT) (cf (aS.aW a.out) (cf (aS.aW a.outer) left))))))<0)) (fun ac w β jE pc S=>?_) (fun ac w β jE pc S=>?_)
 ·exact S.aq 7 .nil [aa (-1)] (b3 (by clear S;omega))
 exact S.aq 10 .nil [aa (cf (aS.aW a.tables) (cf (aS.aW a.outs) (cf (aS.aW a.U) (cf (aS.aW a.aT) (cf (aS.aW a.out) (cf (aS.aW a.outer) left))))))] (b3 (by clear S;omega))
theorem Kw {p:Prop} (h:p:=by clear S;(first|omega|(have ph:=FX (xs:=a) (k:=k) (by omega);omega)|(have JT:=j0 (xs:=a) (k:=k) (by omega);have vN:=hK a (k+1);omega))):p:=h
theorem Y8 (w0:World) (a:List aO) (pa:aC aO) (ay:GT.rd kU (fc w0.heap.size) w0 a pa) (left:Int) (ft:-1<=left) (gP:left<=4194304):Calls Tryz.prog 26 [R a.length pa.1,aa left].toArray w0 (fun e w'=>e= .returned (aa (cf (aS.aW a) left))/\bu ab w0 w'):=by
 refine Calls.run ab Tryz.func26 ?_
 intro ac β S
 have ed:=ns a
 have pk:=gL (aS.aW a) left
 have fy:a.length<=9223372036854775807:=af.le ay
 refine S.aI 21 (.cons (g8 left (a.length:Int)) .nil) (decide ((left-(a.length:Int))<0)) (fun ac w β h1 a8 S=>?_) (fun ac w β h1 a8 S=>?_)
 ·exact S.aq 7 .nil [aa (-1)] (b3 Kw)
 refine S.go 10 .nil fun ac w β S=>?_
 refine dc (fun a5 ac w=>∃(k:Nat) (l:Int) (u:_) (N:_) (β:_),a5=a.length-k/\(k<=a.length)/\(l=left-a.length-g9 (a.take k))/\(0<=l)/\aj Tryz.prog Tryz.f26.ntmps w0 ab u N β ⟨[(0,.v (R a.length pa.1)),(1,.v (aa l)),(5,.v (aa (k:Int)))],[]⟩ ac w) _ ⟨0,(left-(a.length:Int)),_,_,_,rfl,cv,(by simp [tX]),cv,S.z⟩ ?_
 clear S
 rintro f3 a5 iw ac w ⟨k,l,u,N,β,rfl,hk,hl,Ju,S⟩
 refine S.rs fun S=>?_
 have Jw:=hK a k
 refine S.aI 9 .nil (decide ((k:Int)<(a.length:Int))) (fun ac w β bl c7 S=>?_) (fun ac w β bl c7 S=>?_)
 ·have sQ:=gL (aS.aW (el a k)) l
  refine S.aI 22 (.cons (b6 (S.arg ay) k Tryz.underlying23) (.cons (dy (S.arg ay) 123 k) (.cons (aE fun w hw=>Y7 w (el a k) (pa.2 k) (bN (af.el (S.arg ay) k (by omega)) hw) l (by omega) (by omega)) .nil))) (decide ((cf (aS.aW (el a k)) l)<0)) (fun ac w β db fx S=>?_) (fun ac w β db fx S=>?_)
  ·exact S.aq 7 .nil [aa (-1)] (b3 Kw)
  refine S.ge 9 (.cons (cg (k:Int) 1) .nil) f3 fun ac w β S=>iw.of (a.length-(k+1)) _ _ (by omega) ⟨k+1,(cf (aS.aW (el a k)) l),_,_,_,rfl,?_,?_,?_,S.z⟩
  ·exact cO
  ·clear S;(rw [j0 (by omega)];omega)
  ·clear S;omega
 exact S.aq 13 .nil [aa l] (b3 Kw)
theorem PE (w0:World) (a:List aG) (pa:aC aG) (ay:GT.rd kU (fc w0.heap.size) w0 a pa) (left:Int) (ft:-1<=left) (gP:left<=4194304):Calls Tryz.prog 27 [R a.length pa.1,aa left].toArray w0 (fun e w'=>e= .returned (aa (cf (aS.aW a) left))/\bu ab w0 w'):=by
 refine Calls.run ab Tryz.func27 ?_
 intro ac β S
 have ed:=VP a
 have pk:=gL (aS.aW a) left
 have fy:a.length<=9223372036854775807:=af.le ay
 refine S.aI 21 (.cons (g8 left (a.length:Int)) .nil) (decide ((left-(a.length:Int))<0)) (fun ac w β h1 a8 S=>?_) (fun ac w β h1 a8 S=>?_)
 ·exact S.aq 7 .nil [aa (-1)] (b3 (by clear S;omega))
 exact S.aq 10 .nil [aa (left-(a.length:Int))] (b3 (by clear S;omega))
theorem Y3 (w0:World) (a:ah) (pa:cb) (ay:GT.rd kU (fc w0.heap.size) w0 a pa) (left:Int) (ft:-1<=left) (gP:left<=4194304):Calls Tryz.prog 6 [GT.val a pa,aa left].toArray w0 (fun e w'=>e= .returned (aa (cf (aS.aW a) left))/\bu ab w0 w'):=by
 refine Calls.run ab Tryz.func6 ?_
 intro ac β S
 have ed:=Cs a
 have pk:=gL (aS.aW a) left
 have hv:=gL (aS.aW a.mem) left
 refine S.aI 22 (.cons (aE fun w hw=>PF w a.mem pa.mem (bN (bz.mem (d:=a) (S.arg ay)) hw) left (by omega) (by omega)) .nil) (decide ((cf (aS.aW a.mem) left)<0)) (fun ac w β an b4 S=>?_) (fun ac w β an b4 S=>?_)
 ·exact S.aq 7 .nil [aa (-1)] (b3 (by clear S;omega))
 have o2:=gL (aS.aW a.I) (cf (aS.aW a.mem) left)
 refine S.aI 19 (.cons (aE fun w hw=>Y8 w a.I pa.I (bN (bz.I (d:=a) (S.arg ay)) hw) (cf (aS.aW a.mem) left) (by omega) (by omega)) .nil) (decide ((cf (aS.aW a.I) (cf (aS.aW a.mem) left))<0)) (fun ac w β bl c7 S=>?_) (fun ac w β bl c7 S=>?_)
 ·exact S.aq 7 .nil [aa (-1)] (b3 (by clear S;omega))
 have sQ:=gL (aS.aW a.buf) (cf (aS.aW a.I) (cf (aS.aW a.mem) left))
 refine S.aI 19 (.cons (aE fun w hw=>PE w a.buf pa.buf (bN (bz.buf (d:=a) (S.arg ay)) hw) (cf (aS.aW a.I) (cf (aS.aW a.mem) left)) (by omega) (by omega)) .nil) (decide ((cf (aS.aW a.buf) (cf (aS.aW a.I) (cf (aS.aW a.mem) left)))<0)) (fun ac w β db fx S=>?_) (fun ac w β db fx S=>?_)
 ·exact S.aq 7 .nil [aa (-1)] (b3 (by clear S;omega))
 have CX:=gL (aS.aW a.ag) (cf (aS.aW a.buf) (cf (aS.aW a.I) (cf (aS.aW a.mem) left)))
 refine S.aI 19 (.cons (aE fun w hw=>PE w a.ag pa.ag (bN (bz.ag (d:=a) (S.arg ay)) hw) (cf (aS.aW a.buf) (cf (aS.aW a.I) (cf (aS.aW a.mem) left))) (by omega) (by omega)) .nil) (decide ((cf (aS.aW a.ag) (cf (aS.aW a.buf) (cf (aS.aW a.I) (cf (aS.aW a.mem) left))))<0)) (fun ac w β eL h8 S=>?_) (fun ac w β eL h8 S=>?_)
 ·exact S.aq 7 .nil [aa (-1)] (b3 (by clear S;omega))
 exact S.aq 10 .nil [aa (cf (aS.aW a.ag) (cf (aS.aW a.buf) (cf (aS.aW a.I) (cf (aS.aW a.mem) left))))] (b3 (by clear S;omega))
theorem Hg (w0:World) (a:List Int) (pa:aC Int) (ay:bT w0 a pa):Calls Tryz.prog 14 [R a.length pa.1].toArray w0 (dw ab w0 (a:List Int)):=by
 refine Calls.run ab Tryz.func14 ?_
 intro ac β S
 have fy:a.length<=4194304:=af.le ay
 refine S.go 9 .nil fun ac w β S=>S.mG (α:=Int) (m:=a.length) (by':=8) (d:=7) (by omega) (show a.length<=4194304 by omega) fun ac w N ae br S up aD d4=>?_
 clear up d4
 refine S.go 10 .nil fun ac w β S=>?_
 refine dc (fun a5 ac w=>∃(k:Nat) (acc:List Int) (bL:_) (cW:_) (u:_) (N:_) (β:_),a5=a.length-k/\(k<=a.length)/\(acc=a.take k++List.replicate (a.length-k) (GT.eK:Int))/\aj Tryz.prog Tryz.f14.ntmps w0 ab u N β ⟨[(0,.v (R a.length pa.1)),(3,.v (R a.length bL.1)),(4,.v (aa (k:Int)))],[]⟩ ac w/\ad w0 ab u N cW acc bL) _ ⟨0,(List.replicate a.length (GT.eK:Int)),ae,br,_,_,_,rfl,cv,(by simp),S.z,aD⟩ ?_
 clear S aD
 rintro f8 a5 eT ac w ⟨k,acc,bL,cW,u,N,β,rfl,hk,bt,S,ao⟩
 refine S.rs fun S=>?_
 have gD:acc.length=a.length:=by rw [bt];simp;omega
 refine S.aI 9 .nil (decide ((k:Int)<(a.length:Int))) (fun ac w β c3 dY S=>?_) (fun ac w β c3 dY S=>?_)
 ·refine S.go 13 (.cons (b6 (S.arg ay) k Tryz.underlying38) (.cons (cj (S.arg ay) 3 k) (.cons (eI ao.ak (l:=a.length) (k:=k) (i:=(k:Int)) (by rw [bt];simp;omega) rfl (by omega) Tryz.underlying38 (by kernel_rfl)) .nil))) fun ac w β S=>S.fM (α:=Int) ao (t:=3) (k:=k) (j:=0) (off:=bL.1.off+k*1) (v:=aa (el a k)) (y:=(el a k)) (q:=()) (fun _ _ _=>⟨ab,(af.el (S.arg ay) k (by omega)),fun _ h=>False.elim h⟩) fun w N gb nW S up bG d15 Nb tx=>?_
  clear up d15 ao tx
  have afD:(acc.set k (el a k)).length=acc.length:=List.length_set
  refine S.ge 8 (.cons (cg (k:Int) 1) .nil) f8 fun ac w β S=>eT.of (a.length-(k+1)) _ _ (by omega) ⟨k+1,(acc.set k (el a k)),(bL.1,nW),gb,_,_,_,rfl,?_,?_,S.z,bG⟩
  ·exact cO
  ·clear S;rw [bt];exact sD (by omega)
 refine S.bq 13 .nil [R a.length bL.1] fun ac w β S=>?_
 exact cx S (show a=acc by clear S;rw [bt,fb (by omega),show a.length-k=0 by omega];simp) (by rw [show a.length=acc.length from(by rw [bt];simp;omega)];rfl) ao
theorem PI (w0:World) (a:List (List Int)) (pa:aC (List Int)) (ay:bT w0 a pa):Calls Tryz.prog 35 [R a.length pa.1].toArray w0 (dw ab w0 (a:List (List Int))):=by
 refine Calls.run ab Tryz.func35 ?_
 intro ac β S
 have fy:a.length<=4194304:=af.le ay
 refine S.go 9 .nil fun ac w β S=>S.mG (α:=List Int) (m:=a.length) (by':=24) (d:=7) (by omega) (show a.length<=4194304 by omega) fun ac w N ae br S up aD d4=>?_
 clear up d4
 refine S.go 10 .nil fun ac w β S=>?_
 refine dc (fun a5 ac w=>∃(k:Nat) (acc:List (List Int)) (bL:_) (cW:_) (u:_) (N:_) (β:_),a5=a.length-k/\(k<=a.length)/\(acc=a.take k++List.replicate (a.length-k) (GT.eK:List Int))/\aj Tryz.prog Tryz.f35.ntmps w0 ab u N β ⟨[(0,.v (R a.length pa.1)),(3,.v (R a.length bL.1)),(4,.v (aa (k:Int)))],[]⟩ ac w/\ad w0 ab u N cW acc bL) _ ⟨0,(List.replicate a.length (GT.eK:List Int)),ae,br,_,_,_,rfl,cv,(by simp),S.z,aD⟩ ?_
 clear S aD
 rintro f8 a5 eT ac w ⟨k,acc,bL,cW,u,N,β,rfl,hk,bt,S,ao⟩
 refine S.rs fun S=>?_
 have gD:acc.length=a.length:=by rw [bt];simp;omega
 refine S.aI 9 .nil (decide ((k:Int)<(a.length:Int))) (fun ac w β c3 dY S=>?_) (fun ac w β c3 dY S=>?_)
 ·refine S.go 12 (.cons (b6 (S.arg ay) k Tryz.underlying22) (.cons (cj (S.arg ay) 38 k) .nil)) fun ac w β S=>S.cN (r:=(el a k)) (d:=20) (Hg w (el a k) (pa.2 k) (S.rd (af.el (S.arg ay) k (by omega)))) fun ac w N jK gb S up c4 d15=>?_
  have d16:=J.w d15 ao.sub
  replace ao:=ao.up up
  clear up d15
  refine S.go 1 (.cons (eI ao.ak (l:=a.length) (k:=k) (i:=(k:Int)) (by rw [bt];simp;omega) rfl (by omega) Tryz.underlying22 (by kernel_rfl)) .nil) fun ac w β S=>S.eJ (α:=List Int) ao (t:=38) (k:=k) (off:=bL.1.off+k*1) c4 d16 fun w N kn dg S up eo d20 sA oC=>?_
  clear up d20 ao oC
  have Bc:(acc.set k (el a k)).length=acc.length:=List.length_set
  refine S.ge 8 (.cons (cg (k:Int) 1) .nil) f8 fun ac w β S=>eT.of (a.length-(k+1)) _ _ (by omega) ⟨k+1,(acc.set k (el a k)),(bL.1,dg),kn,_,_,_,rfl,?_,?_,S.z,eo⟩
  ·exact cO
  ·clear S;rw [bt];exact sD (by omega)
 refine S.bq 13 .nil [R a.length bL.1] fun ac w β S=>?_
 exact cx S (show a=acc by clear S;rw [bt,fb (by omega),show a.length-k=0 by omega];simp) (by rw [show a.length=acc.length from(by rw [bt];simp;omega)];rfl) ao
theorem Zj (w0:World) (a:aQ):Calls Tryz.prog 307 [GT.val a ()].toArray w0 (fun e w'=>e= .returned (GT.val a ())/\bu ab w0 w'):=by
 refine Calls.run ab Tryz.func307 ?_
 intro ac β S
 exact S.aq 34 .nil [GT.val (⟨a.page,a.bd⟩:aQ) ()] (hU (p:=()) (by clear S;first|rfl|(simp [a, *];done)|(simp [a, *];omega)|(simp_all [a];done)|(simp_all [a];omega)))
theorem Df (w0:World) (a:List aQ) (pa:aC aQ) (ay:bT w0 a pa):Calls Tryz.prog 234 [R a.length pa.1].toArray w0 (dw ab w0 (a:List aQ)):=by
 refine Calls.run ab Tryz.func234 ?_
 intro ac β S
 have fy:a.length<=4194304:=af.le ay
 refine S.go 9 .nil fun ac w β S=>S.mG (α:=aQ) (m:=a.length) (by':=16) (d:=7) (by omega) (show a.length<=4194304 by omega) fun ac w N ae br S up aD d4=>?_
 clear up d4
 refine S.go 10 .nil fun ac w β S=>?_
 refine dc (fun a5 ac w=>∃(k:Nat) (acc:List aQ) (bL:_) (cW:_) (u:_) (N:_) (β:_),a5=a.length-k/\(k<=a.length)/\(acc=a.take k++List.replicate (a.length-k) (GT.eK:aQ))/\aj Tryz.prog Tryz.f234.ntmps w0 ab u N β ⟨[(0,.v (R a.length pa.1)),(3,.v (R a.length bL.1)),(4,.v (aa (k:Int)))],[]⟩ ac w/\ad w0 ab u N cW acc bL) _ ⟨0,(List.replicate a.length (GT.eK:aQ)),ae,br,_,_,_,rfl,cv,(by simp),S.z,aD⟩ ?_
 clear S aD
 rintro f8 a5 eT ac w ⟨k,acc,bL,cW,u,N,β,rfl,hk,bt,S,ao⟩
 refine S.rs fun S=>?_
 have gD:acc.length=a.length:=by rw [bt];simp;omega
 refine S.aI 9 .nil (decide ((k:Int)<(a.length:Int))) (fun ac w β c3 dY S=>?_) (fun ac w β c3 dY S=>?_)
 ·have Qk:ea (el acc k):=(af.el ao.ak k (by omega))
  refine S.go 14 (.cons (b6 (S.arg ay) k Tryz.underlying119) (.cons (dy (S.arg ay) 239 k) (.cons (aE fun w hw=>Zj w (el a k)) (.cons (eI ao.ak (l:=a.length) (k:=k) (i:=(k:Int)) (by rw [bt];simp;omega) rfl (by omega) Tryz.underlying64 (by kernel_rfl)) .nil)))) fun ac w β S=>S.fM (α:=aQ) ao (t:=111) (k:=k) (j:=0) (off:=bL.1.off+k*2) (v:=GT.val (el a k) ()) (y:=(el a k)) (q:=()) (fun _ _ _=>⟨ab,(af.el (S.arg ay) k (by omega)),fun _ h=>False.elim h⟩) fun w N fL nj S up ju d16 B7 vZ=>?_
  clear up d16 ao vZ
  have EG:(acc.set k (el a k)).length=acc.length:=List.length_set
  refine S.ge 8 (.cons (cg (k:Int) 1) .nil) f8 fun ac w β S=>eT.of (a.length-(k+1)) _ _ (by omega) ⟨k+1,(acc.set k (el a k)),(bL.1,nj),fL,_,_,_,rfl,?_,?_,S.z,ju⟩
  ·exact cO
  ·clear S;rw [bt];exact sD (by omega)
 refine S.bq 13 .nil [R a.length bL.1] fun ac w β S=>?_
 exact cx S (show a=acc by clear S;rw [bt,fb (by omega),show a.length-k=0 by omega];simp) (by rw [show a.length=acc.length from(by rw [bt];simp;omega)];rfl) ao
theorem PG (w0:World) (a:List Bool) (pa:aC Bool) (ay:bT w0 a pa):Calls Tryz.prog 235 [R a.length pa.1].toArray w0 (dw ab w0 (a:List Bool)):=by
 refine Calls.run ab Tryz.func235 ?_
 intro ac β S
 have fy:a.length<=4194304:=af.le ay
 refine S.go 9 .nil fun ac w β S=>S.mG (α:=Bool) (m:=a.length) (by':=1) (d:=7) (by omega) (show a.length<=4194304 by omega) fun ac w N ae br S up aD d4=>?_
 clear up d4
 refine S.go 10 .nil fun ac w β S=>?_
 refine dc (fun a5 ac w=>∃(k:Nat) (acc:List Bool) (bL:_) (cW:_) (u:_) (N:_) (β:_),a5=a.length-k/\(k<=a.length)/\(acc=a.take k++List.replicate (a.length-k) (GT.eK:Bool))/\aj Tryz.prog Tryz.f235.ntmps w0 ab u N β ⟨[(0,.v (R a.length pa.1)),(3,.v (R a.length bL.1)),(4,.v (aa (k:Int)))],[]⟩ ac w/\ad w0 ab u N cW acc bL) _ ⟨0,(List.replicate a.length (GT.eK:Bool)),ae,br,_,_,_,rfl,cv,(by simp),S.z,aD⟩ ?_
 clear S aD
 rintro f8 a5 eT ac w ⟨k,acc,bL,cW,u,N,β,rfl,hk,bt,S,ao⟩
 refine S.rs fun S=>?_
 have gD:acc.length=a.length:=by rw [bt];simp;omega
 refine S.aI 9 .nil (decide ((k:Int)<(a.length:Int))) (fun ac w β c3 dY S=>?_) (fun ac w β c3 dY S=>?_)
 ·refine S.go 13 (.cons (b6 (S.arg ay) k Tryz.underlying39) (.cons (cj (S.arg ay) 4 k) (.cons (eI ao.ak (l:=a.length) (k:=k) (i:=(k:Int)) (by rw [bt];simp;omega) rfl (by omega) Tryz.underlying39 (by kernel_rfl)) .nil))) fun ac w β S=>S.fM (α:=Bool) ao (t:=4) (k:=k) (j:=0) (off:=bL.1.off+k*1) (v:=B (el a k)) (y:=(el a k)) (q:=()) (fun _ _ _=>⟨ab,trivial,fun _ h=>False.elim h⟩) fun w N gb nW S up bG d15 Nb tx=>?_
  clear up d15 ao tx
  have afD:(acc.set k (el a k)).length=acc.length:=List.length_set
  refine S.ge 8 (.cons (cg (k:Int) 1) .nil) f8 fun ac w β S=>eT.of (a.length-(k+1)) _ _ (by omega) ⟨k+1,(acc.set k (el a k)),(bL.1,nW),gb,_,_,_,rfl,?_,?_,S.z,bG⟩
  ·exact cO
  ·clear S;rw [bt];exact sD (by omega)
 refine S.bq 13 .nil [R a.length bL.1] fun ac w β S=>?_
 exact cx S (show a=acc by clear S;rw [bt,fb (by omega),show a.length-k=0 by omega];simp) (by rw [show a.length=acc.length from(by rw [bt];simp;omega)];rfl) ao
theorem Zd (w0:World) (a:c_):Calls Tryz.prog 348 [GT.val a ()].toArray w0 (fun e w'=>e= .returned (GT.val a ())/\bu ab w0 w'):=by
 refine Calls.run ab Tryz.func348 ?_
 intro ac β S
 exact S.aq 34 .nil [GT.val (⟨a.eF,a.x⟩:c_) ()] (hU (p:=()) (by clear S;first|rfl|(simp [a, *];done)|(simp [a, *];omega)|(simp_all [a];done)|(simp_all [a];omega)))
theorem Ze (w0:World) (a:List c_) (pa:aC c_) (ay:bT w0 a pa):Calls Tryz.prog 336 [R a.length pa.1].toArray w0 (dw ab w0 (a:List c_)):=by
 refine Calls.run ab Tryz.func336 ?_
 intro ac β S
 have fy:a.length<=4194304:=af.le ay
 refine S.go 9 .nil fun ac w β S=>S.mG (α:=c_) (m:=a.length) (by':=16) (d:=7) (by omega) (show a.length<=4194304 by omega) fun ac w N ae br S up aD d4=>?_
 clear up d4
 refine S.go 10 .nil fun ac w β S=>?_
 refine dc (fun a5 ac w=>∃(k:Nat) (acc:List c_) (bL:_) (cW:_) (u:_) (N:_) (β:_),a5=a.length-k/\(k<=a.length)/\(acc=a.take k++List.replicate (a.length-k) (GT.eK:c_))/\aj Tryz.prog Tryz.f336.ntmps w0 ab u N β ⟨[(0,.v (R a.length pa.1)),(3,.v (R a.length bL.1)),(4,.v (aa (k:Int)))],[]⟩ ac w/\ad w0 ab u N cW acc bL) _ ⟨0,(List.replicate a.length (GT.eK:c_)),ae,br,_,_,_,rfl,cv,(by simp),S.z,aD⟩ ?_
 clear S aD
 rintro f8 a5 eT ac w ⟨k,acc,bL,cW,u,N,β,rfl,hk,bt,S,ao⟩
 refine S.rs fun S=>?_
 have gD:acc.length=a.length:=by rw [bt];simp;omega
 refine S.aI 9 .nil (decide ((k:Int)<(a.length:Int))) (fun ac w β c3 dY S=>?_) (fun ac w β c3 dY S=>?_)
 ·have Qk:iY (el acc k):=(af.el ao.ak k (by omega))
  refine S.go 14 (.cons (b6 (S.arg ay) k Tryz.underlying229) (.cons (dy (S.arg ay) 266 k) (.cons (aE fun w hw=>Zd w (el a k)) (.cons (eI ao.ak (l:=a.length) (k:=k) (i:=(k:Int)) (by rw [bt];simp;omega) rfl (by omega) Tryz.underlying63 (by kernel_rfl)) .nil)))) fun ac w β S=>S.fM (α:=c_) ao (t:=128) (k:=k) (j:=0) (off:=bL.1.off+k*2) (v:=GT.val (el a k) ()) (y:=(el a k)) (q:=()) (fun _ _ _=>⟨ab,(af.el (S.arg ay) k (by omega)),fun _ h=>False.elim h⟩) fun w N fL nj S up ju d16 B7 vZ=>?_
  clear up d16 ao vZ
  have EG:(acc.set k (el a k)).length=acc.length:=List.length_set
  refine S.ge 8 (.cons (cg (k:Int) 1) .nil) f8 fun ac w β S=>eT.of (a.length-(k+1)) _ _ (by omega) ⟨k+1,(acc.set k (el a k)),(bL.1,nj),fL,_,_,_,rfl,?_,?_,S.z,ju⟩
  ·exact cO
  ·clear S;rw [bt];exact sD (by omega)
 refine S.bq 13 .nil [R a.length bL.1] fun ac w β S=>?_
 exact cx S (show a=acc by clear S;rw [bt,fb (by omega),show a.length-k=0 by omega];simp) (by rw [show a.length=acc.length from(by rw [bt];simp;omega)];rfl) ao
theorem Y9 (w0:World) (a:fo):Calls Tryz.prog 337 [GT.val a ()].toArray w0 (fun e w'=>e= .returned (GT.val a ())/\bu ab w0 w'):=by
 refine Calls.run ab Tryz.func337 ?_
 intro ac β S
 exact S.aq 42 .nil [GT.val (⟨a.aX,a.post,a.eV⟩:fo) ()] (hU (p:=()) (by clear S;first|rfl|(simp [a, *];done)|(simp [a, *];omega)|(simp_all [a];done)|(simp_all [a];omega)))
theorem Za (w0:World) (a:df):Calls Tryz.prog 338 [GT.val a ()].toArray w0 (fun e w'=>e= .returned (GT.val a ())/\bu ab w0 w'):=by
 refine Calls.run ab Tryz.func338 ?_
 intro ac β S
 exact S.aq 50 .nil [GT.val (⟨a.kind,a.page,a.wr,a.n⟩:df) ()] (hU (p:=()) (by clear S;first|rfl|(simp [a, *];done)|(simp [a, *];omega)|(simp_all [a];done)|(simp_all [a];omega)))
theorem Zb (w0:World) (a:ax) (pa:c6) (ay:bT w0 a pa):Calls Tryz.prog 308 [GT.val a pa].toArray w0 (dw ab w0 (a:ax)):=by
 refine Calls.run ab Tryz.func308 ?_
 intro ac β S
 have aer:a.prog.length<=4194304:=af.le (az.prog (d:=a) ay)
 have aev:a.written.length<=4194304:=af.le (az.written (d:=a) ay)
 have aen:a.live.length<=4194304:=af.le (az.live (d:=a) ay)
 have aes:a.seen.length<=4194304:=af.le (az.seen (d:=a) ay)
 refine S.go 15 .nil fun ac w β S=>S.cN (r:=a.prog) (d:=6) (Ze w a.prog pa.prog (S.rd (az.prog (d:=a) (S.arg ay)))) fun ac w N ae br S up aD d4=>?_
 clear up d4
 refine S.go 24 .nil fun ac w β S=>S.cN (r:=a.written) (d:=16) (Df w a.written pa.written (S.rd (az.written (d:=a) (S.arg ay)))) fun ac w N bL cW S up ao d8=>?_
 have d9:=J.w d8 aD.sub
 replace aD:=aD.up up
 clear up d8
 refine S.go 8 .nil fun ac w β S=>S.cN (r:=a.live) (d:=20) (Df w a.live pa.live (S.rd (az.live (d:=a) (S.arg ay)))) fun ac w N fY e3 S up bG d13=>?_
 have d14:=J.w d13 aD.sub
 have d15:=J.w d13 ao.sub
 replace aD:=aD.up up
 replace ao:=ao.up up
 clear up d13
 refine S.go 42 (.cons (aE fun w hw=>Y9 w a.aN) (.cons (aE fun w hw=>Za w a.exit) .nil)) fun ac w β S=>S.cN (r:=a.seen) (d:=38) (Hg w a.seen pa.seen (S.rd (az.seen (d:=a) (S.arg ay)))) fun ac w N cG cC S up eU d19=>?_
 have d20:=J.w d19 aD.sub
 have d21:=J.w d19 ao.sub
 have d22:=J.w d19 bG.sub
 replace aD:=aD.up up
 replace ao:=ao.up up
 replace bG:=bG.up up
 clear up d19
 refine S.bq 11 .nil [GT.val (⟨a.prog,a.acc,a.aw,a.written,a.live,a.aN,a.aB,a.exit,a.halted,a.seen⟩:ax) (⟨ae,bL,fY,cG⟩:c6)] fun ac w β S=>?_
 have ba:=hI (x:=(⟨a.prog,a.acc,a.aw,a.written,a.live,a.aN,a.aB,a.exit,a.halted,a.seen⟩:ax)) (p:=(⟨ae,bL,fY,cG⟩:c6)) aD ao bG eU d9 d14 d20 d15 d21 d22 (az.acc (d:=a) (S.arg ay)) (az.aw (d:=a) (S.arg ay)) (az.aN (d:=a) (S.arg ay)) (az.aB (d:=a) (S.arg ay)) (az.exit (d:=a) (S.arg ay))
 exact cx S (show a=(⟨a.prog,a.acc,a.aw,a.written,a.live,a.aN,a.aB,a.exit,a.halted,a.seen⟩:ax) by clear S;first|rfl|simp) rfl ba
theorem Zc (w0:World) (a:List ax) (pa:aC ax) (ay:bT w0 a pa):Calls Tryz.prog 236 [R a.length pa.1].toArray w0 (dw ab w0 (a:List ax)):=by
 refine Calls.run ab Tryz.func236 ?_
 intro ac β S
 have fy:a.length<=4194304:=af.le ay
 refine S.go 9 .nil fun ac w β S=>S.mG (α:=ax) (m:=a.length) (by':=184) (d:=7) (by omega) (show a.length<=4194304 by omega) fun ac w N ae br S up aD d4=>?_
 clear up d4
 refine S.go 10 .nil fun ac w β S=>?_
 refine dc (fun a5 ac w=>∃(k:Nat) (acc:List ax) (bL:_) (cW:_) (u:_) (N:_) (β:_),a5=a.length-k/\(k<=a.length)/\(acc=a.take k++List.replicate (a.length-k) (GT.eK:ax))/\aj Tryz.prog Tryz.f236.ntmps w0 ab u N β ⟨[(0,.v (R a.length pa.1)),(3,.v (R a.length bL.1)),(4,.v (aa (k:Int)))],[]⟩ ac w/\ad w0 ab u N cW acc bL) _ ⟨0,(List.replicate a.length (GT.eK:ax)),ae,br,_,_,_,rfl,cv,(by simp),S.z,aD⟩ ?_
 clear S aD
 rintro f8 a5 eT ac w ⟨k,acc,bL,cW,u,N,β,rfl,hk,bt,S,ao⟩
 refine S.rs fun S=>?_
 have gD:acc.length=a.length:=by rw [bt];simp;omega
 refine S.aI 9 .nil (decide ((k:Int)<(a.length:Int))) (fun ac w β c3 dY S=>?_) (fun ac w β c3 dY S=>?_)
 ·refine S.go 12 (.cons (b6 (S.arg ay) k Tryz.underlying120) (.cons (dy (S.arg ay) 233 k) .nil)) fun ac w β S=>S.cN (r:=(el a k)) (d:=20) (Zb w (el a k) (pa.2 k) (S.rd (af.el (S.arg ay) k (by omega)))) fun ac w N jK gb S up c4 d15=>?_
  have d16:=J.w d15 ao.sub
  replace ao:=ao.up up
  clear up d15
  refine S.go 1 (.cons (eI ao.ak (l:=a.length) (k:=k) (i:=(k:Int)) (by rw [bt];simp;omega) rfl (by omega) Tryz.underlying71 (by kernel_rfl)) .nil) fun ac w β S=>S.eJ (α:=ax) ao (t:=70) (k:=k) (off:=bL.1.off+k*15) c4 d16 fun w N kn dg S up eo d20 sA oC=>?_
  clear up d20 ao oC
  have Bc:(acc.set k (el a k)).length=acc.length:=List.length_set
  refine S.ge 8 (.cons (cg (k:Int) 1) .nil) f8 fun ac w β S=>eT.of (a.length-(k+1)) _ _ (by omega) ⟨k+1,(acc.set k (el a k)),(bL.1,dg),kn,_,_,_,rfl,?_,?_,S.z,eo⟩
  ·exact cO
  ·clear S;rw [bt];exact sD (by omega)
 refine S.bq 13 .nil [R a.length bL.1] fun ac w β S=>?_
 exact cx S (show a=acc by clear S;rw [bt,fb (by omega),show a.length-k=0 by omega];simp) (by rw [show a.length=acc.length from(by rw [bt];simp;omega)];rfl) ao
theorem Zf (w0:World) (a:bQ) (pa:fm) (ay:bT w0 a pa):Calls Tryz.prog 309 [GT.val a pa].toArray w0 (dw ab w0 (a:bQ)):=by
 refine Calls.run ab Tryz.func309 ?_
 intro ac β S
 have aem:a.known.length<=4194304:=af.le (er.known (d:=a) ay)
 have aet:a.aY.length<=4194304:=af.le (er.aY (d:=a) ay)
 refine S.go 15 .nil fun ac w β S=>S.cN (r:=a.known) (d:=6) (PG w a.known pa.known (S.rd (er.known (d:=a) (S.arg ay)))) fun ac w N ae br S up aD d4=>?_
 clear up d4
 refine S.go 8 .nil fun ac w β S=>S.cN (r:=a.aY) (d:=10) (Df w a.aY pa.aY (S.rd (er.aY (d:=a) (S.arg ay)))) fun ac w N bL cW S up ao d8=>?_
 have d9:=J.w d8 aD.sub
 replace aD:=aD.up up
 clear up d8
 refine S.bq 11 .nil [GT.val (⟨a.known,a.aY⟩:bQ) (⟨ae,bL⟩:fm)] fun ac w β S=>?_
 have m9:=l4 (x:=(⟨a.known,a.aY⟩:bQ)) (p:=(⟨ae,bL⟩:fm)) aD ao d9
 exact cx S (show a=(⟨a.known,a.aY⟩:bQ) by clear S;first|rfl|simp) rfl m9
theorem Zg (w0:World) (a:List bQ) (pa:aC bQ) (ay:bT w0 a pa):Calls Tryz.prog 237 [R a.length pa.1].toArray w0 (dw ab w0 (a:List bQ)):=by
 refine Calls.run ab Tryz.func237 ?_
 intro ac β S
 have fy:a.length<=4194304:=af.le ay
 refine S.go 9 .nil fun ac w β S=>S.mG (α:=bQ) (m:=a.length) (by':=48) (d:=7) (by omega) (show a.length<=4194304 by omega) fun ac w N ae br S up aD d4=>?_
 clear up d4
 refine S.go 10 .nil fun ac w β S=>?_
 refine dc (fun a5 ac w=>∃(k:Nat) (acc:List bQ) (bL:_) (cW:_) (u:_) (N:_) (β:_),a5=a.length-k/\(k<=a.length)/\(acc=a.take k++List.replicate (a.length-k) (GT.eK:bQ))/\aj Tryz.prog Tryz.f237.ntmps w0 ab u N β ⟨[(0,.v (R a.length pa.1)),(3,.v (R a.length bL.1)),(4,.v (aa (k:Int)))],[]⟩ ac w/\ad w0 ab u N cW acc bL) _ ⟨0,(List.replicate a.length (GT.eK:bQ)),ae,br,_,_,_,rfl,cv,(by simp),S.z,aD⟩ ?_
 clear S aD
 rintro f8 a5 eT ac w ⟨k,acc,bL,cW,u,N,β,rfl,hk,bt,S,ao⟩
 refine S.rs fun S=>?_
 have gD:acc.length=a.length:=by rw [bt];simp;omega
 refine S.aI 9 .nil (decide ((k:Int)<(a.length:Int))) (fun ac w β c3 dY S=>?_) (fun ac w β c3 dY S=>?_)
 ·refine S.go 12 (.cons (b6 (S.arg ay) k Tryz.underlying121) (.cons (dy (S.arg ay) 236 k) .nil)) fun ac w β S=>S.cN (r:=(el a k)) (d:=20) (Zf w (el a k) (pa.2 k) (S.rd (af.el (S.arg ay) k (by omega)))) fun ac w N jK gb S up c4 d15=>?_
  have d16:=J.w d15 ao.sub
  replace ao:=ao.up up
  clear up d15
  refine S.go 1 (.cons (eI ao.ak (l:=a.length) (k:=k) (i:=(k:Int)) (by rw [bt];simp;omega) rfl (by omega) Tryz.underlying72 (by kernel_rfl)) .nil) fun ac w β S=>S.eJ (α:=bQ) ao (t:=165) (k:=k) (off:=bL.1.off+k*2) c4 d16 fun w N kn dg S up eo d20 sA oC=>?_
  clear up d20 ao oC
  have Bc:(acc.set k (el a k)).length=acc.length:=List.length_set
  refine S.ge 8 (.cons (cg (k:Int) 1) .nil) f8 fun ac w β S=>eT.of (a.length-(k+1)) _ _ (by omega) ⟨k+1,(acc.set k (el a k)),(bL.1,dg),kn,_,_,_,rfl,?_,?_,S.z,eo⟩
  ·exact cO
  ·clear S;rw [bt];exact sD (by omega)
 refine S.bq 13 .nil [R a.length bL.1] fun ac w β S=>?_
 exact cx S (show a=acc by clear S;rw [bt,fb (by omega),show a.length-k=0 by omega];simp) (by rw [show a.length=acc.length from(by rw [bt];simp;omega)];rfl) ao
theorem Zh (w0:World) (a:aO) (pa:fj) (ay:bT w0 a pa):Calls Tryz.prog 124 [GT.val a pa].toArray w0 (dw ab w0 (a:aO)):=by
 refine Calls.run ab Tryz.func124 ?_
 intro ac β S
 have aep:a.outer.length<=4194304:=af.le (aU.outer (d:=a) ay)
 have aeo:a.out.length<=4194304:=af.le (aU.out (d:=a) ay)
 have aek:a.aT.length<=4194304:=af.le (aU.aT (d:=a) ay)
 have ael:a.U.length<=4194304:=af.le (aU.U (d:=a) ay)
 have aeq:a.outs.length<=4194304:=af.le (aU.outs (d:=a) ay)
 have aeu:a.tables.length<=4194304:=af.le (aU.tables (d:=a) ay)
 refine S.go 15 .nil fun ac w β S=>S.cN (r:=a.outer) (d:=6) (Df w a.outer pa.outer (S.rd (aU.outer (d:=a) (S.arg ay)))) fun ac w N ae br S up aD d4=>?_
 clear up d4
 refine S.go 8 .nil fun ac w β S=>S.cN (r:=a.out) (d:=10) (PI w a.out pa.out (S.rd (aU.out (d:=a) (S.arg ay)))) fun ac w N bL cW S up ao d8=>?_
 have d9:=J.w d8 aD.sub
 replace aD:=aD.up up
 clear up d8
 refine S.go 8 .nil fun ac w β S=>S.cN (r:=a.aT) (d:=14) (PG w a.aT pa.aT (S.rd (aU.aT (d:=a) (S.arg ay)))) fun ac w N fY e3 S up bG d13=>?_
 have d14:=J.w d13 aD.sub
 have d15:=J.w d13 ao.sub
 replace aD:=aD.up up
 replace ao:=ao.up up
 clear up d13
 refine S.go 8 .nil fun ac w β S=>S.cN (r:=a.U) (d:=18) (Zc w a.U pa.U (S.rd (aU.U (d:=a) (S.arg ay)))) fun ac w N cG cC S up eU d19=>?_
 have d20:=J.w d19 aD.sub
 have d21:=J.w d19 ao.sub
 have d22:=J.w d19 bG.sub
 replace aD:=aD.up up
 replace ao:=ao.up up
 replace bG:=bG.up up
 clear up d19
 refine S.go 8 .nil fun ac w β S=>S.cN (r:=a.outs) (d:=22) (Hg w a.outs pa.outs (S.rd (aU.outs (d:=a) (S.arg ay)))) fun ac w N e2 mE S up dC d26=>?_
 have d27:=J.w d26 aD.sub
 have d28:=J.w d26 ao.sub
 have d29:=J.w d26 bG.sub
 have d30:=J.w d26 eU.sub
 replace aD:=aD.up up
 replace ao:=ao.up up
 replace bG:=bG.up up
 replace eU:=eU.up up
 clear up d26
 refine S.go 24 .nil fun ac w β S=>S.cN (r:=a.tables) (d:=32) (Zg w a.tables pa.tables (S.rd (aU.tables (d:=a) (S.arg ay)))) fun ac w N kN mF S up gw d34=>?_
 have d35:=J.w d34 aD.sub
 have d36:=J.w d34 ao.sub
 have d37:=J.w d34 bG.sub
 have d38:=J.w d34 eU.sub
 have d39:=J.w d34 dC.sub
 replace aD:=aD.up up
 replace ao:=ao.up up
 replace bG:=bG.up up
 replace eU:=eU.up up
 replace dC:=dC.up up
 clear up d34
 refine S.bq 19 .nil [GT.val (⟨a.outer,a.out,a.aT,a.U,a.outs,a.aB,a.aX,a.tables,a.owned⟩:aO) (⟨ae,bL,fY,cG,e2,kN⟩:fj)] fun ac w β S=>?_
 have kc:=Ff (x:=(⟨a.outer,a.out,a.aT,a.U,a.outs,a.aB,a.aX,a.tables,a.owned⟩:aO)) (p:=(⟨ae,bL,fY,cG,e2,kN⟩:fj)) aD ao bG eU dC gw d9 d14 d20 d27 d35 d15 d21 d28 d36 d22 d29 d37 d30 d38 d39 (aU.aB (d:=a) (S.arg ay)) (aU.aX (d:=a) (S.arg ay)) (aU.owned (d:=a) (S.arg ay))
 exact cx S (show a=(⟨a.outer,a.out,a.aT,a.U,a.outs,a.aB,a.aX,a.tables,a.owned⟩:aO) by clear S;first|rfl|simp) rfl kc
theorem Zi (w0:World) (a:List aO) (pa:aC aO) (ay:bT w0 a pa):Calls Tryz.prog 36 [R a.length pa.1].toArray w0 (dw ab w0 (a:List aO)):=by
 refine Calls.run ab Tryz.func36 ?_
 intro ac β S
 have fy:a.length<=4194304:=af.le ay
 refine S.go 9 .nil fun ac w β S=>S.mG (α:=aO) (m:=a.length) (by':=168) (d:=7) (by omega) (show a.length<=4194304 by omega) fun ac w N ae br S up aD d4=>?_
 clear up d4
 refine S.go 10 .nil fun ac w β S=>?_
 refine dc (fun a5 ac w=>∃(k:Nat) (acc:List aO) (bL:_) (cW:_) (u:_) (N:_) (β:_),a5=a.length-k/\(k<=a.length)/\(acc=a.take k++List.replicate (a.length-k) (GT.eK:aO))/\aj Tryz.prog Tryz.f36.ntmps w0 ab u N β ⟨[(0,.v (R a.length pa.1)),(3,.v (R a.length bL.1)),(4,.v (aa (k:Int)))],[]⟩ ac w/\ad w0 ab u N cW acc bL) _ ⟨0,(List.replicate a.length (GT.eK:aO)),ae,br,_,_,_,rfl,cv,(by simp),S.z,aD⟩ ?_
 clear S aD
 rintro f8 a5 eT ac w ⟨k,acc,bL,cW,u,N,β,rfl,hk,bt,S,ao⟩
 refine S.rs fun S=>?_
 have gD:acc.length=a.length:=by rw [bt];simp;omega
 refine S.aI 9 .nil (decide ((k:Int)<(a.length:Int))) (fun ac w β c3 dY S=>?_) (fun ac w β c3 dY S=>?_)
 ·refine S.go 12 (.cons (b6 (S.arg ay) k Tryz.underlying23) (.cons (dy (S.arg ay) 123 k) .nil)) fun ac w β S=>S.cN (r:=(el a k)) (d:=20) (Zh w (el a k) (pa.2 k) (S.rd (af.el (S.arg ay) k (by omega)))) fun ac w N jK gb S up c4 d15=>?_
  have d16:=J.w d15 ao.sub
  replace ao:=ao.up up
  clear up d15
  refine S.go 1 (.cons (eI ao.ak (l:=a.length) (k:=k) (i:=(k:Int)) (by rw [bt];simp;omega) rfl (by omega) Tryz.underlying28 (by kernel_rfl)) .nil) fun ac w β S=>S.eJ (α:=aO) ao (t:=74) (k:=k) (off:=bL.1.off+k*9) c4 d16 fun w N kn dg S up eo d20 sA oC=>?_
  clear up d20 ao oC
  have Bc:(acc.set k (el a k)).length=acc.length:=List.length_set
  refine S.ge 8 (.cons (cg (k:Int) 1) .nil) f8 fun ac w β S=>eT.of (a.length-(k+1)) _ _ (by omega) ⟨k+1,(acc.set k (el a k)),(bL.1,dg),kn,_,_,_,rfl,?_,?_,S.z,eo⟩
  ·exact cO
  ·clear S;rw [bt];exact sD (by omega)
 refine S.bq 13 .nil [R a.length bL.1] fun ac w β S=>?_
 exact cx S (show a=acc by clear S;rw [bt,fb (by omega),show a.length-k=0 by omega];simp) (by rw [show a.length=acc.length from(by rw [bt];simp;omega)];rfl) ao
theorem Y_ (w0:World) (a:aG):Calls Tryz.prog 125 [GT.val a ()].toArray w0 (fun e w'=>e= .returned (GT.val a ())/\bu ab w0 w'):=by
 refine Calls.run ab Tryz.func125 ?_
 intro ac β S
 exact S.aq 50 .nil [GT.val (⟨a.tag,a.page,a.host,a.bd⟩:aG) ()] (hU (p:=()) (by clear S;first|rfl|(simp [a, *];done)|(simp [a, *];omega)|(simp_all [a];done)|(simp_all [a];omega)))
theorem PH (w0:World) (a:List aG) (pa:aC aG) (ay:bT w0 a pa):Calls Tryz.prog 37 [R a.length pa.1].toArray w0 (dw ab w0 (a:List aG)):=by
 refine Calls.run ab Tryz.func37 ?_
 intro ac β S
 have fy:a.length<=4194304:=af.le ay
 refine S.go 9 .nil fun ac w β S=>S.mG (α:=aG) (m:=a.length) (by':=32) (d:=7) (by omega) (show a.length<=4194304 by omega) fun ac w N ae br S up aD d4=>?_
 clear up d4
 refine S.go 10 .nil fun ac w β S=>?_
 refine dc (fun a5 ac w=>∃(k:Nat) (acc:List aG) (bL:_) (cW:_) (u:_) (N:_) (β:_),a5=a.length-k/\(k<=a.length)/\(acc=a.take k++List.replicate (a.length-k) (GT.eK:aG))/\aj Tryz.prog Tryz.f37.ntmps w0 ab u N β ⟨[(0,.v (R a.length pa.1)),(3,.v (R a.length bL.1)),(4,.v (aa (k:Int)))],[]⟩ ac w/\ad w0 ab u N cW acc bL) _ ⟨0,(List.replicate a.length (GT.eK:aG)),ae,br,_,_,_,rfl,cv,(by simp),S.z,aD⟩ ?_
 clear S aD
 rintro f8 a5 eT ac w ⟨k,acc,bL,cW,u,N,β,rfl,hk,bt,S,ao⟩
 refine S.rs fun S=>?_
 have gD:acc.length=a.length:=by rw [bt];simp;omega
 refine S.aI 9 .nil (decide ((k:Int)<(a.length:Int))) (fun ac w β c3 dY S=>?_) (fun ac w β c3 dY S=>?_)
 ·have Qk:e7 (el acc k):=(af.el ao.ak k (by omega))
  refine S.go 14 (.cons (b6 (S.arg ay) k Tryz.underlying24) (.cons (dy (S.arg ay) 140 k) (.cons (aE fun w hw=>Y_ w (el a k)) (.cons (eI ao.ak (l:=a.length) (k:=k) (i:=(k:Int)) (by rw [bt];simp;omega) rfl (by omega) Tryz.underlying29 (by kernel_rfl)) .nil)))) fun ac w β S=>S.fM (α:=aG) ao (t:=138) (k:=k) (j:=0) (off:=bL.1.off+k*4) (v:=GT.val (el a k) ()) (y:=(el a k)) (q:=()) (fun _ _ _=>⟨ab,(af.el (S.arg ay) k (by omega)),fun _ h=>False.elim h⟩) fun w N fL nj S up ju d16 B7 vZ=>?_
  clear up d16 ao vZ
  have EG:(acc.set k (el a k)).length=acc.length:=List.length_set
  refine S.ge 8 (.cons (cg (k:Int) 1) .nil) f8 fun ac w β S=>eT.of (a.length-(k+1)) _ _ (by omega) ⟨k+1,(acc.set k (el a k)),(bL.1,nj),fL,_,_,_,rfl,?_,?_,S.z,ju⟩
  ·exact cO
  ·clear S;rw [bt];exact sD (by omega)
 refine S.bq 13 .nil [R a.length bL.1] fun ac w β S=>?_
 exact cx S (show a=acc by clear S;rw [bt,fb (by omega),show a.length-k=0 by omega];simp) (by rw [show a.length=acc.length from(by rw [bt];simp;omega)];rfl) ao
theorem De (w0:World) (a:ah) (pa:cb) (ay:bT w0 a pa):Calls Tryz.prog 8 [GT.val a pa].toArray w0 (dw ab w0 (a:ah)):=by
 refine Calls.run ab Tryz.func8 ?_
 intro ac β S
 have Ss:a.mem.length<=4194304:=af.le (bz.mem (d:=a) ay)
 have St:a.I.length<=4194304:=af.le (bz.I (d:=a) ay)
 have Sq:a.buf.length<=4194304:=af.le (bz.buf (d:=a) ay)
 have Sr:a.ag.length<=4194304:=af.le (bz.ag (d:=a) ay)
 refine S.go 15 .nil fun ac w β S=>S.cN (r:=a.mem) (d:=6) (PI w a.mem pa.mem (S.rd (bz.mem (d:=a) (S.arg ay)))) fun ac w N ae br S up aD d4=>?_
 clear up d4
 refine S.go 8 .nil fun ac w β S=>S.cN (r:=a.I) (d:=10) (Zi w a.I pa.I (S.rd (bz.I (d:=a) (S.arg ay)))) fun ac w N bL cW S up ao d8=>?_
 have d9:=J.w d8 aD.sub
 replace aD:=aD.up up
 clear up d8
 refine S.go 8 .nil fun ac w β S=>S.cN (r:=a.buf) (d:=14) (PH w a.buf pa.buf (S.rd (bz.buf (d:=a) (S.arg ay)))) fun ac w N fY e3 S up bG d13=>?_
 have d14:=J.w d13 aD.sub
 have d15:=J.w d13 ao.sub
 replace aD:=aD.up up
 replace ao:=ao.up up
 clear up d13
 refine S.go 8 .nil fun ac w β S=>S.cN (r:=a.ag) (d:=18) (PH w a.ag pa.ag (S.rd (bz.ag (d:=a) (S.arg ay)))) fun ac w N cG cC S up eU d19=>?_
 have d20:=J.w d19 aD.sub
 have d21:=J.w d19 ao.sub
 have d22:=J.w d19 bG.sub
 replace aD:=aD.up up
 replace ao:=ao.up up
 replace bG:=bG.up up
 clear up d19
 refine S.bq 11 .nil [GT.val (⟨a.mem,a.I,a.buf,a.ag⟩:ah) (⟨ae,bL,fY,cG⟩:cb)] fun ac w β S=>?_
 have ba:=fi (x:=(⟨a.mem,a.I,a.buf,a.ag⟩:ah)) (p:=(⟨ae,bL,fY,cG⟩:cb)) aD ao bG eU d9 d14 d20 d15 d21 d22
 exact cx S (show a=(⟨a.mem,a.I,a.buf,a.ag⟩:ah) by clear S;first|rfl|simp) rfl ba
theorem pU (w0:World) (l:List (List Int)) (pl:aC (List Int)) (hl:bT w0 l pl):Calls Tryz.prog 100 [R l.length pl.1].toArray w0 (dw ab w0 (l:List (List Int))):=by
 refine Calls.run ab Tryz.func100 ?_
 intro ac β S
 have yh:l.length<=4194304:=af.le hl
 refine S.go 7 .nil fun ac w β S=>S.gR (α:=List Int) (d:=5) fun ac w N ae br S up aD d4=>?_
 clear up d4
 refine S.go 10 .nil fun ac w β S=>?_
 refine dc (fun a5 ac w=>∃(k:Nat) (acc:List (List Int)) (bL:_) (cW:_) (u:_) (N:_) (β:_),a5=l.length-k/\(k<=l.length)/\(acc=l.take k)/\aj Tryz.prog Tryz.f100.ntmps w0 ab u N β ⟨[(0,.v (R l.length pl.1)),(3,.v (R acc.length bL.1)),(4,.v (aa (k:Int)))],[]⟩ ac w/\ad w0 ab u N cW acc bL) _ ⟨0,([]:List (List Int)),ae,br,_,_,_,rfl,cv,(by simp),S.z,aD⟩ ?_
 clear S aD
 rintro f8 a5 eT ac w ⟨k,acc,bL,cW,u,N,β,rfl,hk,bt,S,ao⟩
 refine S.rs fun S=>?_
 have gD:acc.length=k:=by rw [bt];simp;omega
 refine S.aI 9 .nil (decide ((k:Int)<(l.length:Int))) (fun ac w β c3 dY S=>?_) (fun ac w β c3 dY S=>?_)
 ·refine S.go 7 .nil fun ac w β S=>S.gR (α:=Int) (d:=13) fun ac w N jK gb S up c4 d15=>?_
  have d16:=J.w d15 ao.sub
  replace ao:=ao.up up
  clear up d15
  have Xh:(el l k).length<=4194304:=af.le (af.el (S.arg hl) k (by omega))
  refine S.go 4 (.cons (b6 (S.arg hl) k Tryz.underlying22) (.cons (cj (S.arg hl) 38 k) .nil)) fun ac w β S=>S.lC (α:=Int) c4 (af.el (S.arg hl) k (by omega)) (fun _ _ h=>h) (by':=8) (d:=18) (lx:=0) (ly:=(el l k).length) rfl fun ac w N wm kn S up iD d20=>?_
  have d22:=d20 _ d16 ao.sub
  replace ao:=ao.bw d16 up
  clear up d20
  refine S.iL (α:=List Int) (x:=(el l k)) (p:=wm) iD.own iD.sub iD.dJ (d:=19) fun ac w N e2 mE S up dC d26=>?_
  have d27:=d26 _ d22 ao.sub
  replace ao:=ao.up up
  clear up d26
  refine S.wP (α:=List Int) ao dC d27 (by':=24) (d:=20) (lx:=acc.length) (ly:=1) rfl rfl (show _<=4194304 by simp only [List.length_append,List.length_cons,List.length_nil];omega) fun ac w N yN CK S up gG d31=>?_
  clear up d31
  refine S.ge 9 (.cons (cg (k:Int) 1) .nil) f8 fun ac w β S=>eT.of (l.length-(k+1)) _ _ (by omega) ⟨k+1,(acc++[(el l k)]),yN,CK,_,_,_,rfl,?_,?_,S.z,gG⟩
  ·exact cO
  ·clear S;(first|(rw [jh (by omega),bt];done)|(rw [jh (by omega),bt];simp;done))
 refine S.bq 13 .nil [R acc.length bL.1] fun ac w β S=>?_
 exact cx S (show l=acc by clear S;(rw [bt,fb (by omega)])) rfl ao
theorem uA (w0:World) (g:ax) (bc:c6) (aJ:bT w0 g bc):Calls Tryz.prog 107 [GT.val g bc].toArray w0 (dw ab w0 (g:ax)):=by
 refine Calls.run ab Tryz.func107 ?_
 intro ac β S
 have iy:g.prog.length<=4194304:=af.le (az.prog (d:=g) aJ)
 have iA:g.written.length<=4194304:=af.le (az.written (d:=g) aJ)
 have ix:g.live.length<=4194304:=af.le (az.live (d:=g) aJ)
 have iz:g.seen.length<=4194304:=af.le (az.seen (d:=g) aJ)
 refine S.go 8 .nil fun ac w β S=>S.gR (α:=c_) (d:=3) fun ac w N ae br S up aD d4=>?_
 clear up d4
 have ux:g.prog.length<=4194304:=af.le (az.prog (d:=g) (S.arg aJ))
 refine S.go 2 .nil fun ac w β S=>S.lC (α:=c_) aD (az.prog (d:=g) (S.arg aJ)) (fun _ _ h=>h) (by':=16) (d:=6) (lx:=0) (ly:=g.prog.length) rfl fun ac w N bL cW S up ao d8=>?_
 clear up d8
 refine S.go 6 .nil fun ac w β S=>S.gR (α:=aQ) (d:=8) fun ac w N fY e3 S up bG d13=>?_
 have d14:=J.w d13 ao.sub
 replace ao:=ao.up up
 clear up d13
 have alY:g.written.length<=4194304:=af.le (az.written (d:=g) (S.arg aJ))
 refine S.go 2 .nil fun ac w β S=>S.lC (α:=aQ) bG (az.written (d:=g) (S.arg aJ)) (fun _ _ h=>h) (by':=16) (d:=11) (lx:=0) (ly:=g.written.length) rfl fun ac w N nj pL S up eo d18=>?_
 have d20:=d18 _ d14 ao.sub
 replace ao:=ao.bw d14 up
 clear up d18
 refine S.go 6 .nil fun ac w β S=>S.gR (α:=aQ) (d:=13) fun ac w N dd fD S up ba d24=>?_
 have d25:=J.w d24 ao.sub
 have d26:=J.w d24 eo.sub
 replace ao:=ao.up up
 replace eo:=eo.up up
 clear up d24
 have OC:g.live.length<=4194304:=af.le (az.live (d:=g) (S.arg aJ))
 refine S.go 2 .nil fun ac w β S=>S.lC (α:=aQ) ba (az.live (d:=g) (S.arg aJ)) (fun _ _ h=>h) (by':=16) (d:=16) (lx:=0) (ly:=g.live.length) rfl fun ac w N eZ n1 S up kb d30=>?_
 have d32:=d30 _ d25 ao.sub
 have d33:=d30 _ d26 eo.sub
 replace ao:=ao.bw d25 up
 replace eo:=eo.bw d26 up
 clear up d30
 refine S.go 6 .nil fun ac w β S=>S.gR (α:=Int) (d:=18) fun ac w N l7 n2 S up gY d37=>?_
 have d38:=J.w d37 ao.sub
 have d39:=J.w d37 eo.sub
 have d40:=J.w d37 kb.sub
 replace ao:=ao.up up
 replace eo:=eo.up up
 replace kb:=kb.up up
 clear up d37
 have OD:g.seen.length<=4194304:=af.le (az.seen (d:=g) (S.arg aJ))
 refine S.go 2 .nil fun ac w β S=>S.lC (α:=Int) gY (az.seen (d:=g) (S.arg aJ)) (fun _ _ h=>h) (by':=8) (d:=21) (lx:=0) (ly:=g.seen.length) rfl fun ac w N BT zg S up k2 d44=>?_
 have d46:=d44 _ d38 ao.sub
 have d47:=d44 _ d39 eo.sub
 have d48:=d44 _ d40 kb.sub
 replace ao:=ao.bw d38 up
 replace eo:=eo.bw d39 up
 replace kb:=kb.bw d40 up
 clear up d44
 refine S.bq 11 .nil [GT.val (⟨g.prog,g.acc,g.aw,g.written,g.live,g.aN,g.aB,g.exit,g.halted,g.seen⟩:ax) (⟨bL,nj,eZ,BT⟩:c6)] fun ac w β S=>?_
 have hS:=hI (x:=(⟨g.prog,g.acc,g.aw,g.written,g.live,g.aN,g.aB,g.exit,g.halted,g.seen⟩:ax)) (p:=(⟨bL,nj,eZ,BT⟩:c6)) ao eo kb k2 d20 d32 d46 d33 d47 d48 (az.acc (d:=g) (S.arg aJ)) (az.aw (d:=g) (S.arg aJ)) (az.aN (d:=g) (S.arg aJ)) (az.aB (d:=g) (S.arg aJ)) (az.exit (d:=g) (S.arg aJ))
 exact cx S (show g=(⟨g.prog,g.acc,g.aw,g.written,g.live,g.aN,g.aB,g.exit,g.halted,g.seen⟩:ax) by clear S;(first|rfl|simp)) rfl hS
theorem ZS (w0:World) (l:List ax) (pl:aC ax) (hl:bT w0 l pl):Calls Tryz.prog 217 [R l.length pl.1].toArray w0 (dw ab w0 (l:List ax)):=by
 refine Calls.run ab Tryz.func217 ?_
 intro ac β S
 have yh:l.length<=4194304:=af.le hl
 refine S.go 7 .nil fun ac w β S=>S.gR (α:=ax) (d:=5) fun ac w N ae br S up aD d4=>?_
 clear up d4
 refine S.go 10 .nil fun ac w β S=>?_
 refine dc (fun a5 ac w=>∃(k:Nat) (acc:List ax) (bL:_) (cW:_) (u:_) (N:_) (β:_),a5=l.length-k/\(k<=l.length)/\(acc=l.take k)/\aj Tryz.prog Tryz.f217.ntmps w0 ab u N β ⟨[(0,.v (R l.length pl.1)),(3,.v (R acc.length bL.1)),(4,.v (aa (k:Int)))],[]⟩ ac w/\ad w0 ab u N cW acc bL) _ ⟨0,([]:List ax),ae,br,_,_,_,rfl,cv,(by simp),S.z,aD⟩ ?_
 clear S aD
 rintro f8 a5 eT ac w ⟨k,acc,bL,cW,u,N,β,rfl,hk,bt,S,ao⟩
 refine S.rs fun S=>?_
 have gD:acc.length=k:=by rw [bt];simp;omega
 refine S.aI 9 .nil (decide ((k:Int)<(l.length:Int))) (fun ac w β c3 dY S=>?_) (fun ac w β c3 dY S=>?_)
 ·refine S.go 11 (.cons (b6 (S.arg hl) k Tryz.underlying71) (.cons (dy (S.arg hl) 70 k) .nil)) fun ac w β S=>S.cN (r:=(el l k)) (d:=17) (uA w (el l k) (pl.2 k) (S.rd (af.el (S.arg hl) k (by omega)))) fun ac w N jK gb S up c4 d15=>?_
  have d16:=J.w d15 ao.sub
  replace ao:=ao.up up
  clear up d15
  refine S.iL (α:=ax) (x:=(el l k)) (p:=jK) c4.own c4.sub c4.dJ (d:=18) fun ac w N wm kn S up iD d20=>?_
  have d21:=d20 _ d16 ao.sub
  replace ao:=ao.up up
  clear up d20
  refine S.wP (α:=ax) ao iD d21 (by':=184) (d:=19) (lx:=acc.length) (ly:=1) rfl rfl (show _<=4194304 by simp only [List.length_append,List.length_cons,List.length_nil];omega) fun ac w N wq wV S up jX d25=>?_
  clear up d25
  refine S.ge 9 (.cons (cg (k:Int) 1) .nil) f8 fun ac w β S=>eT.of (l.length-(k+1)) _ _ (by omega) ⟨k+1,(acc++[(el l k)]),wq,wV,_,_,_,rfl,?_,?_,S.z,jX⟩
  ·exact cO
  ·clear S;(first|(rw [jh (by omega),bt];done)|(rw [jh (by omega),bt];simp;done))
 refine S.bq 13 .nil [R acc.length bL.1] fun ac w β S=>?_
 exact cx S (show l=acc by clear S;(rw [bt,fb (by omega)])) rfl ao
theorem Di (w0:World) (k:bQ) (ej:fm) (hk:bT w0 k ej):Calls Tryz.prog 218 [GT.val k ej].toArray w0 (dw ab w0 (k:bQ)):=by
 refine Calls.run ab Tryz.func218 ?_
 intro ac β S
 have qU:k.known.length<=4194304:=af.le (er.known (d:=k) hk)
 have qV:k.aY.length<=4194304:=af.le (er.aY (d:=k) hk)
 refine S.go 7 .nil fun ac w β S=>?_
 refine dI ?_
 let bH:b1:=⟨[(1,.p 0 0),(2,.p 1 0)],[GT.cells k ej,ck bQ]⟩
 obtain⟨bA,bx,bS,S⟩:∃bA bx bS,aj Tryz.prog Tryz.f218.ntmps w0 ab bA bx bS bH ac w:=⟨_,_,_,S.z⟩
 refine mD (fun ac w=>∃nY oS ri uj u N β,aj Tryz.prog Tryz.f218.ntmps w0 ab u N β (bH.dl [1] [] 2 [(1,[R k.known.length nY.1,R k.aY.length ri.1])]) ac w/\ad w0 ab u N oS k.known nY/\ad w0 ab u N uj k.aY ri/\J oS uj) ?_ ?_
 ·refine S.dP (f:=10) 9 (by kernel_rfl) (by kernel_rfl) fun w S=>?_
  refine S.hm 6 [1,2,5,6] [] [(5,.v (R k.known.length ej.known.1)),(9,.v (R k.aY.length ej.aY.1))] .nil fun ac S=>?_
  refine ar.m8 fun W aH=>?_
  refine ar.mP (l':=cu 10 [1,2,5,6]) (by kernel_rfl) ?_
  have adH ac w nY oS ri uj u N β (S:aj Tryz.prog Tryz.f218.ntmps w0 ab u N β (bH.dl [1] [] 2 [(1,[R k.known.length nY.1,R k.aY.length ri.1])]) ac w) (q9:ad w0 ab u N oS k.known nY) (pz:ad w0 ab u N uj k.aY ri) (d75:J oS uj):W 0 (cu 10 [0,1,2,3,4,5,6,7,8,9]) ac w:=by
   exact nb aH ⟨rfl,nY,oS,ri,uj,_,_,_,S.z,q9,pz,d75⟩
  have adI ac w MV CP yQ wY u N β (S:aj Tryz.prog Tryz.f218.ntmps w0 ab u N β (bH.dl [1] [(11,.v (GT.val (⟨k.known,k.aY⟩:bQ) (⟨MV,yQ⟩:fm)))] 2 []) ac w) (BE:ad w0 ab u N CP k.known MV) (tF:ad w0 ab u N wY k.aY yQ) (d77:J CP wY) (al:d_ bx bA N u) (aP:cS bH.aM.length bS β):W 1 (cu 10 [0,1,2,3,4,5,6,7,8]) ac w:=by
   exact en aH 9 (S.wl aH [] .nil fun _ _ _ S=>adH _ _ MV CP yQ wY _ _ _ S BE tF d77)
  have adJ ac w BY GN kg kS u N β (S:aj Tryz.prog Tryz.f218.ntmps w0 ab u N β (bH.dl [1] [(6,.v (R k.known.length kg.1)),(10,.v (R k.aY.length BY.1))] 2 []) ac w) (eY:ad w0 ab u N GN k.aY BY) (jX:ad w0 ab u N kS k.known kg) (d79:J GN kS) (al:d_ bx bA N u) (aP:cS bH.aM.length bS β):W 2 (cu 10 [0,1,2,3,4,5,6,7]) ac w:=by
   exact en aH 8 (S.e0 aH al aP [] (.cons (fT (s:=Instr.build 165 [(0,R k.known.length kg.1),(1,R k.aY.length BY.1)].toArray) (v:= .agg [R k.known.length kg.1,R k.aY.length BY.1].toArray) (fun w=>by kernel_rfl)) .nil) fun _ _ _ S ca=>adI _ _ kg kS BY GN _ _ _ S jX eY (J.symm d79) al ca)
  have Rx ac w kg kS cG cC u N β (S:aj Tryz.prog Tryz.f218.ntmps w0 ab u N β (bH.dl [1] [(6,.v (R k.known.length kg.1)),(7,.v (R 0 cG.1)),(9,.v (R k.aY.length ej.aY.1))] 2 []) ac w) (jX:ad w0 ab u N kS k.known kg) (bh:ad w0 ab u N cC ([]:List aQ) cG) (d81:J kS cC) (al:∀b,bx b->N b/\u.heap[b]? =bA.heap[b]? /\¬cC b) (aP:cS bH.aM.length bS β):W 3 (cu 10 [0,1,2,3,4,5,6]) ac w:=by
   refine en aH 7 ?_
   have amh:k.aY.length<=4194304:=af.le (er.aY (d:=k) (S.arg hk))
   refine id (S.lH (α:=aQ) bh (er.aY (d:=k) (S.arg hk)) (fun _ _ h=>h) (by':=16) (d:=10) (lx:=0) (ly:=k.aY.length) rfl fun ac w N pD um S up ev d85=>?_)
   have R8:=fun b h=>(⟨(up b (al b h).1 (al b h).2.2).1,(up b (al b h).1 (al b h).2.2).2.trans (al b h).2.1⟩:_/\_)
   refine ar.dh S R8 aP fun bk=>?_
   have d88:=d85 _ d81 jX.sub
   replace jX:=jX.bw d81 up
   clear up d85
   exact S.cZ aH [] bk fun _ S=>adJ _ _ pD um kg kS _ _ _ S ev jX (J.symm d88) R8 aP
  have adK ac w kg kS u N β (S:aj Tryz.prog Tryz.f218.ntmps w0 ab u N β (bH.dl [1] [(6,.v (R k.known.length kg.1)),(9,.v (R k.aY.length ej.aY.1))] 2 []) ac w) (jX:ad w0 ab u N kS k.known kg) (al:d_ bx bA N u) (aP:cS bH.aM.length bS β):W 4 (cu 10 [0,1,2,3,5,6]) ac w:=by
   refine en aH 4 ?_
   refine id (S.fA (α:=aQ) (d:=7) (by kernel_rfl) fun ac w N B1 GQ S up E5 d93=>?_)
   have Jd:=fun b h=>(⟨(up b (al b h).1).1,(up b (al b h).1).2.trans (al b h).2,d93 b (al b h).1⟩:_/\_/\_)
   refine ar.dh S (fun b h=>⟨(Jd b h).1,(Jd b h).2.1⟩) aP fun bk=>?_
   have d95:=J.w d93 jX.sub
   replace jX:=jX.up up
   clear up d93
   exact S.cZ aH [] bk fun _ S=>Rx _ _ kg kS B1 GQ _ _ _ S jX E5 d95 Jd aP
  have DT ac w bX bU cG cC u N β (S:aj Tryz.prog Tryz.f218.ntmps w0 ab u N β (bH.dl [1] [(3,.v (R 0 bX.1)),(5,.v (R k.known.length ej.known.1)),(7,.v (R 0 cG.1)),(9,.v (R k.aY.length ej.aY.1))] 2 []) ac w) (ao:ad w0 ab u N bU ([]:List Bool) bX) (bh:ad w0 ab u N cC ([]:List aQ) cG) (d97:J bU cC) (al:∀b,bx b->N b/\u.heap[b]? =bA.heap[b]? /\¬bU b/\¬cC b) (aP:cS bH.aM.length bS β):W 4 (cu 10 [0,1,2,4,5,6]) ac w:=by
   refine en aH 3 ?_
   have alP:k.known.length<=4194304:=af.le (er.known (d:=k) (S.arg hk))
   refine id (S.lH (α:=Bool) ao (er.known (d:=k) (S.arg hk)) (fun _ _ h=>h) (by':=1) (d:=6) (lx:=0) (ly:=k.known.length) rfl fun ac w N MY Oa S up Bn d101=>?_)
   have I9:=fun b h=>(⟨(up b (al b h).1 (al b h).2.2.1).1,(up b (al b h).1 (al b h).2.2.1).2.trans (al b h).2.1,(al b h).2.2.2⟩:_/\_/\_)
   refine ar.dh S (fun b h=>⟨(I9 b h).1,(I9 b h).2.1⟩) aP fun bk=>?_
   have d104:=d101 _ (J.symm d97) bh.sub
   replace bh:=bh.bw (J.symm d97) up
   clear up d101
   exact S.cZ aH [] bk fun _ S=>Rx _ _ MY Oa cG cC _ _ _ S Bn bh (J.symm d104) I9 aP
  have adg ac w bX bU u N β (S:aj Tryz.prog Tryz.f218.ntmps w0 ab u N β (bH.dl [1] [(3,.v (R 0 bX.1)),(5,.v (R k.known.length ej.known.1)),(9,.v (R k.aY.length ej.aY.1))] 2 []) ac w) (ao:ad w0 ab u N bU ([]:List Bool) bX) (al:∀b,bx b->N b/\u.heap[b]? =bA.heap[b]? /\¬bU b) (aP:cS bH.aM.length bS β):W 5 (cu 10 [0,1,2,5,6]) ac w:=by
   refine gx aH 3 4 ?_ ?_
   ·have alQ:k.known.length<=4194304:=af.le (er.known (d:=k) (S.arg hk))
    refine id (S.lH (α:=Bool) ao (er.known (d:=k) (S.arg hk)) (fun _ _ h=>h) (by':=1) (d:=6) (lx:=0) (ly:=k.known.length) rfl fun ac w N sx ij S up Bo d109=>?_)
    have R2:=fun b h=>(⟨(up b (al b h).1 (al b h).2.2).1,(up b (al b h).1 (al b h).2.2).2.trans (al b h).2.1⟩:_/\_)
    refine ar.dh S R2 aP fun bk=>?_
    clear up d109
    exact S.cZ aH [] bk fun _ S=>adK _ _ sx ij _ _ _ S Bo R2 aP
   ·refine id (S.fA (α:=aQ) (d:=7) (by kernel_rfl) fun ac w N Va NN S up tz d115=>?_)
    have I_:=fun b h=>(⟨(up b (al b h).1).1,(up b (al b h).1).2.trans (al b h).2.1,(al b h).2.2,d115 b (al b h).1⟩:_/\_/\_/\_)
    refine ar.dh S (fun b h=>⟨(I_ b h).1,(I_ b h).2.1⟩) aP fun bk=>?_
    have d117:=J.w d115 ao.sub
    replace ao:=ao.up up
    clear up d115
    exact S.cZ aH [] bk fun _ S=>DT _ _ bX bU Va NN _ _ _ S ao tz d117 I_ aP
  have adj ac w cG cC u N β (S:aj Tryz.prog Tryz.f218.ntmps w0 ab u N β (bH.dl [1] [(5,.v (R k.known.length ej.known.1)),(7,.v (R 0 cG.1)),(9,.v (R k.aY.length ej.aY.1))] 2 []) ac w) (bh:ad w0 ab u N cC ([]:List aQ) cG) (al:∀b,bx b->N b/\u.heap[b]? =bA.heap[b]? /\¬cC b) (aP:cS bH.aM.length bS β):W 5 (cu 10 [1,2,4,5,6]) ac w:=by
   refine en aH 0 ?_
   refine id (S.fA (α:=Bool) (d:=3) (by kernel_rfl) fun ac w N aiC F_ S up sk d122=>?_)
   have Ja:=fun b h=>(⟨(up b (al b h).1).1,(up b (al b h).1).2.trans (al b h).2.1,d122 b (al b h).1,(al b h).2.2⟩:_/\_/\_/\_)
   refine ar.dh S (fun b h=>⟨(Ja b h).1,(Ja b h).2.1⟩) aP fun bk=>?_
   have d124:=J.w d122 bh.sub
   replace bh:=bh.up up
   clear up d122
   exact S.cZ aH [] bk fun _ S=>DT _ _ aiC F_ cG cC _ _ _ S sk bh (J.symm d124) Ja aP
  have al:d_ bx bA bx bA:=fun b h=>⟨h,rfl⟩
  have aP:cS bH.aM.length bS bS:=fun _ _=>rfl
  refine gx aH 0 4 ?_ ?_
  ·refine id (S.fA (α:=Bool) (d:=3) (by kernel_rfl) fun ac w N Fu NQ S up v5 d128=>?_)
   have Jb:=fun b h=>(⟨(up b (al b h).1).1,(up b (al b h).1).2.trans (al b h).2,d128 b (al b h).1⟩:_/\_/\_)
   refine ar.dh S (fun b h=>⟨(Jb b h).1,(Jb b h).2.1⟩) aP fun bk=>?_
   clear up d128
   exact S.cZ aH [] bk fun _ S=>adg _ _ Fu NQ _ _ _ S v5 Jb aP
  ·refine id (S.fA (α:=aQ) (d:=7) (by kernel_rfl) fun ac w N Fv CH S up tA d133=>?_)
   have Jc:=fun b h=>(⟨(up b (al b h).1).1,(up b (al b h).1).2.trans (al b h).2,d133 b (al b h).1⟩:_/\_/\_)
   refine ar.dh S (fun b h=>⟨(Jc b h).1,(Jc b h).2.1⟩) aP fun bk=>?_
   clear up d133
   exact S.cZ aH [] bk fun _ S=>adj _ _ Fv CH _ _ _ S tA Jc aP
 clear S
 rintro ac w ⟨nY,oS,ri,uj,u,N,β,S,q9,pz,d135⟩
 refine S.ex fun S=>?_
 refine S.bq 2 .nil [GT.val (⟨k.known,k.aY⟩:bQ) (⟨nY,ri⟩:fm)] fun ac w β S=>?_
 have Lg:=l4 (x:=(⟨k.known,k.aY⟩:bQ)) (p:=(⟨nY,ri⟩:fm)) q9 pz d135
 exact cx S (show k=(⟨k.known,k.aY⟩:bQ) by clear S;(first|rfl|simp)) rfl Lg
theorem ZV (w0:World) (m:aO) (pm:fj) (hm:bT w0 m pm):Calls Tryz.prog 101 [GT.val m pm].toArray w0 (dw ab w0 (m:aO)):=by
 refine Calls.run ab Tryz.func101 ?_
 intro ac β S
 have JB:m.outer.length<=4194304:=af.le (aU.outer (d:=m) hm)
 have JA:m.out.length<=4194304:=af.le (aU.out (d:=m) hm)
 have Jy:m.aT.length<=4194304:=af.le (aU.aT (d:=m) hm)
 have Jz:m.U.length<=4194304:=af.le (aU.U (d:=m) hm)
 have JC:m.outs.length<=4194304:=af.le (aU.outs (d:=m) hm)
 have JD:m.tables.length<=4194304:=af.le (aU.tables (d:=m) hm)
 refine S.go 8 .nil fun ac w β S=>S.gR (α:=aQ) (d:=5) fun ac w N ae br S up aD d4=>?_
 clear up d4
 have ux:m.outer.length<=4194304:=af.le (aU.outer (d:=m) (S.arg hm))
 refine S.go 2 .nil fun ac w β S=>S.lC (α:=aQ) aD (aU.outer (d:=m) (S.arg hm)) (fun _ _ h=>h) (by':=16) (d:=8) (lx:=0) (ly:=m.outer.length) rfl fun ac w N bL cW S up ao d8=>?_
 clear up d8
 refine S.go 8 .nil fun ac w β S=>S.cN (r:=m.out) (d:=12) (pU w m.out pm.out (S.rd (aU.out (d:=m) (S.arg hm)))) fun ac w N fY e3 S up bG d13=>?_
 have d14:=J.w d13 ao.sub
 replace ao:=ao.up up
 clear up d13
 refine S.go 6 .nil fun ac w β S=>S.gR (α:=Bool) (d:=14) fun ac w N nj pL S up eo d18=>?_
 have d19:=J.w d18 ao.sub
 have d20:=J.w d18 bG.sub
 replace ao:=ao.up up
 replace bG:=bG.up up
 clear up d18
 have Xl:m.aT.length<=4194304:=af.le (aU.aT (d:=m) (S.arg hm))
 refine S.go 2 .nil fun ac w β S=>S.lC (α:=Bool) eo (aU.aT (d:=m) (S.arg hm)) (fun _ _ h=>h) (by':=1) (d:=17) (lx:=0) (ly:=m.aT.length) rfl fun ac w N dd fD S up ba d24=>?_
 have d26:=d24 _ d19 ao.sub
 have d27:=d24 _ d20 bG.sub
 replace ao:=ao.bw d19 up
 replace bG:=bG.bw d20 up
 clear up d24
 refine S.go 8 .nil fun ac w β S=>S.cN (r:=m.U) (d:=21) (ZS w m.U pm.U (S.rd (aU.U (d:=m) (S.arg hm)))) fun ac w N yN CK S up gG d31=>?_
 have d32:=J.w d31 ao.sub
 have d33:=J.w d31 bG.sub
 have d34:=J.w d31 ba.sub
 replace ao:=ao.up up
 replace bG:=bG.up up
 replace ba:=ba.up up
 clear up d31
 refine S.go 6 .nil fun ac w β S=>S.gR (α:=Int) (d:=23) fun ac w N tN CL S up iE d38=>?_
 have d39:=J.w d38 ao.sub
 have d40:=J.w d38 bG.sub
 have d41:=J.w d38 ba.sub
 have d42:=J.w d38 gG.sub
 replace ao:=ao.up up
 replace bG:=bG.up up
 replace ba:=ba.up up
 replace gG:=gG.up up
 clear up d38
 have w_:m.outs.length<=4194304:=af.le (aU.outs (d:=m) (S.arg hm))
 refine S.go 2 .nil fun ac w β S=>S.lC (α:=Int) iE (aU.outs (d:=m) (S.arg hm)) (fun _ _ h=>h) (by':=8) (d:=26) (lx:=0) (ly:=m.outs.length) rfl fun ac w N k4 lE S up ey d46=>?_
 have d48:=d46 _ d39 ao.sub
 have d49:=d46 _ d40 bG.sub
 have d50:=d46 _ d41 ba.sub
 have d51:=d46 _ d42 gG.sub
 replace ao:=ao.bw d39 up
 replace bG:=bG.bw d40 up
 replace ba:=ba.bw d41 up
 replace gG:=gG.bw d42 up
 clear up d46
 refine S.go 6 .nil fun ac w β S=>S.gR (α:=bQ) (d:=28) fun ac w N aiQ GL S up qm d55=>?_
 have d56:=J.w d55 ao.sub
 have d57:=J.w d55 bG.sub
 have d58:=J.w d55 ba.sub
 have d59:=J.w d55 gG.sub
 have d60:=J.w d55 ey.sub
 replace ao:=ao.up up
 replace bG:=bG.up up
 replace ba:=ba.up up
 replace gG:=gG.up up
 replace ey:=ey.up up
 clear up d55
 refine S.go 10 .nil fun ac w β S=>?_
 refine dc (fun a5 ac w=>∃(k:Nat) (acc:List bQ) (nq:_) (lF:_) (u:_) (N:_) (β:_),a5=m.tables.length-k/\(k<=m.tables.length)/\(acc=m.tables.take k)/\aj Tryz.prog Tryz.f101.ntmps w0 ab u N β ⟨[(1,.p 0 0),(2,.p 1 0),(3,.v (R acc.length nq.1)),(4,.v (aa (k:Int)))],[[R m.outer.length bL.1,R m.out.length fY.1,R m.aT.length dd.1,R m.U.length yN.1,R m.outs.length k4.1,aa m.aB,aa m.aX,R m.tables.length pm.tables.1,aa m.owned],ck aO]⟩ ac w/\ad w0 ab u N lF acc nq/\ad w0 ab u N cW m.outer bL/\ad w0 ab u N e3 m.out fY/\ad w0 ab u N fD m.aT dd/\ad w0 ab u N CK m.U yN/\ad w0 ab u N lE m.outs k4/\J lF cW/\J lF e3/\J lF fD/\J lF CK/\J lF lE) _ ⟨0,([]:List bQ),aiQ,GL,_,_,_,rfl,cv,(by simp),S.z,qm,ao,bG,ba,gG,ey,(J.symm d56),(J.symm d57),(J.symm d58),(J.symm d59),(J.symm d60)⟩ ?_
 clear S bG ba gG ey qm ao
 rintro f69 a5 ad9 ac w ⟨k,acc,nq,lF,u,N,β,rfl,hk,bt,S,iS,ao,bG,ba,gG,ey,d64,d65,d66,d67,d68⟩
 refine S.rs fun S=>?_
 have gD:acc.length=k:=by rw [bt];simp;omega
 refine S.aI 10 .nil (decide ((k:Int)<(m.tables.length:Int))) (fun ac w β Aj Aa S=>?_) (fun ac w β Aj Aa S=>?_)
 ·refine S.go 12 (.cons (b6 (aU.tables (d:=m) (S.arg hm)) k Tryz.underlying72) (.cons (dy (aU.tables (d:=m) (S.arg hm)) 165 k) .nil)) fun ac w β S=>S.cN (r:=(el m.tables k)) (d:=42) (Di w (el m.tables k) (pm.tables.2 k) (S.rd (af.el (aU.tables (d:=m) (S.arg hm)) k (by omega)))) fun ac w N Vq CQ S up nS d76=>?_
  have d77:=J.w d76 iS.sub
  have d78:=J.w d76 ao.sub
  have d79:=J.w d76 bG.sub
  have d80:=J.w d76 ba.sub
  have d81:=J.w d76 gG.sub
  have d82:=J.w d76 ey.sub
  replace iS:=iS.up up
  replace ao:=ao.up up
  replace bG:=bG.up up
  replace ba:=ba.up up
  replace gG:=gG.up up
  replace ey:=ey.up up
  clear up d76
  refine S.iL (α:=bQ) (x:=(el m.tables k)) (p:=Vq) nS.own nS.sub nS.dJ (d:=43) fun ac w N apW WG S up wh d86=>?_
  have d87:=d86 _ d77 iS.sub
  have d88:=d86 _ d78 ao.sub
  have d89:=d86 _ d79 bG.sub
  have d90:=d86 _ d80 ba.sub
  have d91:=d86 _ d81 gG.sub
  have d92:=d86 _ d82 ey.sub
  replace iS:=iS.up up
  replace ao:=ao.up up
  replace bG:=bG.up up
  replace ba:=ba.up up
  replace gG:=gG.up up
  replace ey:=ey.up up
  clear up d86
  refine S.wP (α:=bQ) iS wh d87 (by':=48) (d:=44) (lx:=acc.length) (ly:=1) rfl rfl (show _<=4194304 by simp only [List.length_append,List.length_cons,List.length_nil];omega) fun ac w N Vs WH S up BF d96=>?_
  have d97:=d96 _ (J.symm d64) d88 ao.sub
  have d98:=d96 _ (J.symm d65) d89 bG.sub
  have d99:=d96 _ (J.symm d66) d90 ba.sub
  have d100:=d96 _ (J.symm d67) d91 gG.sub
  have d101:=d96 _ (J.symm d68) d92 ey.sub
  replace ao:=ao.bw (J.symm d64) up
  replace bG:=bG.bw (J.symm d65) up
  replace ba:=ba.bw (J.symm d66) up
  replace gG:=gG.bw (J.symm d67) up
  replace ey:=ey.bw (J.symm d68) up
  clear up d96
  refine S.ge 9 (.cons (cg (k:Int) 1) .nil) f69 fun ac w β S=>ad9.of (m.tables.length-(k+1)) _ _ (by omega) ⟨k+1,(acc++[(el m.tables k)]),Vs,WH,_,_,_,rfl,?_,?_,S.z,BF,ao,bG,ba,gG,ey,(J.symm d97),(J.symm d98),(J.symm d99),(J.symm d100),(J.symm d101)⟩
  ·exact cO
  ·clear S;(first|(rw [jh (by omega),bt];done)|(rw [jh (by omega),bt];simp;done))
 refine S.bq 20 .nil [GT.val (⟨m.outer,m.out,m.aT,m.U,m.outs,m.aB,m.aX,acc,m.owned⟩:aO) (⟨bL,fY,dd,yN,k4,nq⟩:fj)] fun ac w β S=>?_
 have oD:=Ff (x:=(⟨m.outer,m.out,m.aT,m.U,m.outs,m.aB,m.aX,acc,m.owned⟩:aO)) (p:=(⟨bL,fY,dd,yN,k4,nq⟩:fj)) ao bG ba gG ey iS d14 d26 d32 d48 (J.symm d64) d27 d33 d49 (J.symm d65) d34 d50 (J.symm d66) d51 (J.symm d67) (J.symm d68) (aU.aB (d:=m) (S.arg hm)) (aU.aX (d:=m) (S.arg hm)) (aU.owned (d:=m) (S.arg hm))
 exact cx S (show m=(⟨m.outer,m.out,m.aT,m.U,m.outs,m.aB,m.aX,acc,m.owned⟩:aO) by clear S;(first|rfl|(rw [bt,fb (by omega)];done)|(rw [bt,fb (by omega)];simp;done)|simp)) rfl oD
theorem ZU (w0:World) (h:ah) (ai:cb) (a1:bT w0 h ai):Calls Tryz.prog 28 [GT.val h ai].toArray w0 (dw ab w0 (h:ah)):=by
 refine Calls.run ab Tryz.func28 ?_
 intro ac β S
 have m1:h.mem.length<=4194304:=af.le (bz.mem (d:=h) a1)
 have m2:h.I.length<=4194304:=af.le (bz.I (d:=h) a1)
 have mZ:h.buf.length<=4194304:=af.le (bz.buf (d:=h) a1)
 have m0:h.ag.length<=4194304:=af.le (bz.ag (d:=h) a1)
 refine S.go 7 .nil fun ac w β S=>?_
 refine dI ?_
 let bH:b1:=⟨[(1,.p 0 0),(2,.p 1 0)],[GT.cells h ai,ck ah]⟩
 obtain⟨bA,bx,bS,S⟩:∃bA bx bS,aj Tryz.prog Tryz.f28.ntmps w0 ab bA bx bS bH ac w:=⟨_,_,_,S.z⟩
 refine mD (fun ac w=>∃hJ jk jf jw iU iW u N β,aj Tryz.prog Tryz.f28.ntmps w0 ab u N β (bH.dl [] [(3,.p 2 0)] 3 [(2,[R h.mem.length iU.1,R ([]:List aO).length (GT.cY (α:=List aO)).1,R h.buf.length hJ.1,R h.ag.length jf.1])]) ac w/\ad w0 ab u N jk h.buf hJ/\ad w0 ab u N jw h.ag jf/\ad w0 ab u N iW h.mem iU/\J jk jw/\J jk iW/\J jw iW) ?_ ?_
 ·refine S.dP (f:=14) 13 (by kernel_rfl) (by kernel_rfl) fun w S=>?_
  refine S.hm 8 [0,1,4,5,8,9] [] [(6,.v (R h.mem.length ai.mem.1)),(10,.v (R h.buf.length ai.buf.1)),(14,.v (R h.ag.length ai.ag.1))] .nil fun ac S=>?_
  refine ar.m8 fun W aH=>?_
  refine ar.mP (l':=cu 14 [0,1,4,5,8,9]) (by kernel_rfl) ?_
  have IV ac w hJ jk jf jw iU iW u N β (S:aj Tryz.prog Tryz.f28.ntmps w0 ab u N β (bH.dl [] [(3,.p 2 0)] 3 [(2,[R h.mem.length iU.1,R ([]:List aO).length (GT.cY (α:=List aO)).1,R h.buf.length hJ.1,R h.ag.length jf.1])]) ac w) (fR:ad w0 ab u N jk h.buf hJ) (gF:ad w0 ab u N jw h.ag jf) (gX:ad w0 ab u N iW h.mem iU) (d240:J jk jw) (d241:J jk iW) (d242:J jw iW):W 0 (cu 14 [0,1,2,3,4,5,6,7,8,9,10,11,12,13]) ac w:=by
   exact nb aH ⟨rfl,hJ,jk,jf,jw,iU,iW,_,_,_,S.z,fR,gF,gX,d240,d241,d242⟩
  have An ac w nn kq np kR lr kp u N β (S:aj Tryz.prog Tryz.f28.ntmps w0 ab u N β (bH.dl [] [(3,.p 2 0),(16,.v (GT.val (⟨h.mem,([]:List aO),h.buf,h.ag⟩:ah) (⟨lr,(GT.cY (α:=List aO)),nn,np⟩:cb)))] 3 [(2,ck ah)]) ac w) (lX:ad w0 ab u N kq h.buf nn) (sn:ad w0 ab u N kR h.ag np) (v_:ad w0 ab u N kp h.mem lr) (d244:J kq kR) (d245:J kq kp) (d246:J kR kp) (al:d_ bx bA N u) (aP:cS bH.aM.length bS β):W 1 (cu 14 [0,1,2,3,4,5,6,7,8,9,10,11,12]) ac w:=by
   exact en aH 13 (S.wl aH [] .nil fun _ _ _ S=>IV _ _ nn kq np kR lr kp _ _ _ S lX sn v_ d244 d245 d246)
  have IW ac w nn kq np kR lr kp u N β (S:aj Tryz.prog Tryz.f28.ntmps w0 ab u N β (bH.dl [] [(16,.v (GT.val (⟨h.mem,([]:List aO),h.buf,h.ag⟩:ah) (⟨lr,(GT.cY (α:=List aO)),nn,np⟩:cb)))] 2 []) ac w) (lX:ad w0 ab u N kq h.buf nn) (sn:ad w0 ab u N kR h.ag np) (v_:ad w0 ab u N kp h.mem lr) (d248:J kq kR) (d249:J kq kp) (d250:J kR kp) (al:d_ bx bA N u) (aP:cS bH.aM.length bS β):W 2 (cu 14 [0,1,2,3,4,5,6,7,8,9,10,11]) ac w:=by
   exact en aH 12 (S.e0 aH al aP [] .nil fun _ _ _ S ca=>An _ _ nn kq np kR lr kp _ _ _ S lX sn v_ d248 d249 d250 al ca)
  have Ao ac w dL dU je jP bX bU u N β (S:aj Tryz.prog Tryz.f28.ntmps w0 ab u N β (bH.dl [] [(3,.p 2 0),(7,.v (R h.mem.length bX.1)),(11,.v (R h.buf.length dL.1)),(15,.v (R h.ag.length je.1))] 3 [(2,ck ah)]) ac w) (ev:ad w0 ab u N dU h.buf dL) (qj:ad w0 ab u N jP h.ag je) (ao:ad w0 ab u N bU h.mem bX) (d252:J dU jP) (d253:J dU bU) (d254:J jP bU) (al:d_ bx bA N u) (aP:cS bH.aM.length bS β):W 2 (cu 14 [0,1,2,3,4,5,6,7,8,9,10,12]) ac w:=by
   exact en aH 11 (S.e0 aH al aP [] (.cons (fT (s:=Instr.build 31 [(0,R h.mem.length bX.1),(2,R h.buf.length dL.1),(3,R h.ag.length je.1)].toArray) (v:= .agg [R h.mem.length bX.1,R ([]:List aO).length (GT.cY (α:=List aO)).1,R h.buf.length dL.1,R h.ag.length je.1].toArray) (fun w=>by kernel_rfl)) .nil) fun _ _ _ S ca=>An _ _ dL dU je jP bX bU _ _ _ S ev qj ao d252 d253 d254 al ca)
  have IX ac w dL dU je jP bX bU u N β (S:aj Tryz.prog Tryz.f28.ntmps w0 ab u N β (bH.dl [] [(7,.v (R h.mem.length bX.1)),(11,.v (R h.buf.length dL.1)),(15,.v (R h.ag.length je.1))] 2 []) ac w) (ev:ad w0 ab u N dU h.buf dL) (qj:ad w0 ab u N jP h.ag je) (ao:ad w0 ab u N bU h.mem bX) (d256:J dU jP) (d257:J dU bU) (d258:J jP bU) (al:d_ bx bA N u) (aP:cS bH.aM.length bS β):W 3 (cu 14 [0,1,2,3,4,5,6,7,8,9,10]) ac w:=by
   exact gx aH 11 12 (S.e0 aH al aP [] (.cons (fT (s:=Instr.build 31 [(0,R h.mem.length bX.1),(2,R h.buf.length dL.1),(3,R h.ag.length je.1)].toArray) (v:= .agg [R h.mem.length bX.1,R ([]:List aO).length (GT.cY (α:=List aO)).1,R h.buf.length dL.1,R h.ag.length je.1].toArray) (fun w=>by kernel_rfl)) .nil) fun _ _ _ S ca=>IW _ _ dL dU je jP bX bU _ _ _ S ev qj ao d256 d257 d258 al ca) (S.e0 aH al aP [] .nil fun _ _ _ S ca=>Ao _ _ dL dU je jP bX bU _ _ _ S ev qj ao d256 d257 d258 al ca)
  have u4 ac w dL dU c2 ch bX bU u N β (S:aj Tryz.prog Tryz.f28.ntmps w0 ab u N β (bH.dl [] [(3,.p 2 0),(7,.v (R h.mem.length bX.1)),(11,.v (R h.buf.length dL.1)),(12,.v (R 0 c2.1)),(14,.v (R h.ag.length ai.ag.1))] 3 [(2,ck ah)]) ac w) (ev:ad w0 ab u N dU h.buf dL) (ba:ad w0 ab u N ch ([]:List aG) c2) (ao:ad w0 ab u N bU h.mem bX) (d260:J dU ch) (d261:J dU bU) (d262:J ch bU) (al:∀b,bx b->N b/\u.heap[b]? =bA.heap[b]? /\¬ch b) (aP:cS bH.aM.length bS β):W 3 (cu 14 [0,1,2,3,4,5,6,7,8,9,12]) ac w:=by
   refine en aH 10 ?_
   have Xm:h.ag.length<=4194304:=af.le (bz.ag (d:=h) (S.arg a1))
   refine id (S.lH (α:=aG) ba (bz.ag (d:=h) (S.arg a1)) (fun _ _ h=>h) (by':=32) (d:=15) (lx:=0) (ly:=h.ag.length) rfl fun ac w N Mm Ge S up Ll d266=>?_)
   have AA:=fun b h=>(⟨(up b (al b h).1 (al b h).2.2).1,(up b (al b h).1 (al b h).2.2).2.trans (al b h).2.1⟩:_/\_)
   refine ar.dh S AA aP fun bk=>?_
   have d269:=d266 _ (J.symm d262) ao.sub
   have d270:=d266 _ d260 ev.sub
   replace ao:=ao.bw (J.symm d262) up
   replace ev:=ev.bw d260 up
   clear up d266
   exact S.cZ aH [] bk fun _ S=>Ao _ _ dL dU Mm Ge bX bU _ _ _ S ev Ll ao d270 d261 (J.symm d269) AA aP
  have Ap ac w dL dU c2 ch bX bU u N β (S:aj Tryz.prog Tryz.f28.ntmps w0 ab u N β (bH.dl [] [(7,.v (R h.mem.length bX.1)),(11,.v (R h.buf.length dL.1)),(12,.v (R 0 c2.1)),(14,.v (R h.ag.length ai.ag.1))] 2 []) ac w) (ev:ad w0 ab u N dU h.buf dL) (ba:ad w0 ab u N ch ([]:List aG) c2) (ao:ad w0 ab u N bU h.mem bX) (d272:J dU ch) (d273:J dU bU) (d274:J ch bU) (al:∀b,bx b->N b/\u.heap[b]? =bA.heap[b]? /\¬ch b) (aP:cS bH.aM.length bS β):W 4 (cu 14 [0,1,2,3,4,5,6,7,8,9]) ac w:=by
   refine gx aH 10 12 ?_ (S.e0 aH (fun b h=>⟨(al b h).1,(al b h).2.1⟩) aP [] .nil fun _ _ _ S ca=>u4 _ _ dL dU c2 ch bX bU _ _ _ S ev ba ao d272 d273 d274 al ca)
   have Xo:h.ag.length<=4194304:=af.le (bz.ag (d:=h) (S.arg a1))
   refine id (S.lH (α:=aG) ba (bz.ag (d:=h) (S.arg a1)) (fun _ _ h=>h) (by':=32) (d:=15) (lx:=0) (ly:=h.ag.length) rfl fun ac w N Mn zf S up Bx d278=>?_)
   have AB:=fun b h=>(⟨(up b (al b h).1 (al b h).2.2).1,(up b (al b h).1 (al b h).2.2).2.trans (al b h).2.1⟩:_/\_)
   refine ar.dh S AB aP fun bk=>?_
   have d281:=d278 _ (J.symm d274) ao.sub
   have d282:=d278 _ d272 ev.sub
   replace ao:=ao.bw (J.symm d274) up
   replace ev:=ev.bw d272 up
   clear up d278
   exact S.cZ aH [] bk fun _ S=>IX _ _ dL dU Mn zf bX bU _ _ _ S ev Bx ao d282 d273 (J.symm d281) AB aP
  have Aq ac w dL dU bX bU u N β (S:aj Tryz.prog Tryz.f28.ntmps w0 ab u N β (bH.dl [] [(3,.p 2 0),(7,.v (R h.mem.length bX.1)),(11,.v (R h.buf.length dL.1)),(14,.v (R h.ag.length ai.ag.1))] 3 [(2,ck ah)]) ac w) (ev:ad w0 ab u N dU h.buf dL) (ao:ad w0 ab u N bU h.mem bX) (d284:J dU bU) (al:d_ bx bA N u) (aP:cS bH.aM.length bS β):W 4 (cu 14 [0,1,2,3,4,5,6,8,9,12]) ac w:=by
   refine en aH 7 ?_
   refine id (S.fA (α:=aG) (d:=12) (by kernel_rfl) fun ac w N Mo Gf S up Lm d288=>?_)
   have vb:=fun b h=>(⟨(up b (al b h).1).1,(up b (al b h).1).2.trans (al b h).2,d288 b (al b h).1⟩:_/\_/\_)
   refine ar.dh S (fun b h=>⟨(vb b h).1,(vb b h).2.1⟩) aP fun bk=>?_
   have d290:=J.w d288 ao.sub
   have d291:=J.w d288 ev.sub
   replace ao:=ao.up up
   replace ev:=ev.up up
   clear up d288
   exact S.cZ aH [] bk fun _ S=>u4 _ _ dL dU Mo Gf bX bU _ _ _ S ev Lm ao d291 d284 (J.symm d290) vb aP
  have rY ac w c2 ch bX bU cG cC u N β (S:aj Tryz.prog Tryz.f28.ntmps w0 ab u N β (bH.dl [] [(3,.p 2 0),(7,.v (R h.mem.length bX.1)),(8,.v (R 0 cG.1)),(10,.v (R h.buf.length ai.buf.1)),(12,.v (R 0 c2.1)),(14,.v (R h.ag.length ai.ag.1))] 3 [(2,ck ah)]) ac w) (ba:ad w0 ab u N ch ([]:List aG) c2) (ao:ad w0 ab u N bU h.mem bX) (bh:ad w0 ab u N cC ([]:List aG) cG) (d293:J ch bU) (d294:J ch cC) (d295:J bU cC) (al:∀b,bx b->N b/\u.heap[b]? =bA.heap[b]? /\¬cC b/\¬ch b) (aP:cS bH.aM.length bS β):W 4 (cu 14 [0,1,2,3,4,5,7,8,9,12]) ac w:=by
   refine en aH 6 ?_
   have Xr:h.buf.length<=4194304:=af.le (bz.buf (d:=h) (S.arg a1))
   refine id (S.lH (α:=aG) bh (bz.buf (d:=h) (S.arg a1)) (fun _ _ h=>h) (by':=32) (d:=11) (lx:=0) (ly:=h.buf.length) rfl fun ac w N Mp Gg S up Ln d299=>?_)
   have vc:=fun b h=>(⟨(up b (al b h).1 (al b h).2.2.1).1,(up b (al b h).1 (al b h).2.2.1).2.trans (al b h).2.1,(al b h).2.2.2⟩:_/\_/\_)
   refine ar.dh S (fun b h=>⟨(vc b h).1,(vc b h).2.1⟩) aP fun bk=>?_
   have d302:=d299 _ d295 ao.sub
   have d303:=d299 _ d294 ba.sub
   replace ao:=ao.bw d295 up
   replace ba:=ba.bw d294 up
   clear up d299
   exact S.cZ aH [] bk fun _ S=>u4 _ _ Mp Gg c2 ch bX bU _ _ _ S Ln ba ao (J.symm d303) (J.symm d302) d293 vc aP
  have IZ ac w dL dU bX bU u N β (S:aj Tryz.prog Tryz.f28.ntmps w0 ab u N β (bH.dl [] [(7,.v (R h.mem.length bX.1)),(11,.v (R h.buf.length dL.1)),(14,.v (R h.ag.length ai.ag.1))] 2 []) ac w) (ev:ad w0 ab u N dU h.buf dL) (ao:ad w0 ab u N bU h.mem bX) (d305:J dU bU) (al:d_ bx bA N u) (aP:cS bH.aM.length bS β):W 5 (cu 14 [0,1,2,3,4,5,6,8,9]) ac w:=by
   refine gx aH 7 12 ?_ (S.e0 aH al aP [] .nil fun _ _ _ S ca=>Aq _ _ dL dU bX bU _ _ _ S ev ao d305 al ca)
   refine id (S.fA (α:=aG) (d:=12) (by kernel_rfl) fun ac w N Mq Gh S up Lo d309=>?_)
   have vd:=fun b h=>(⟨(up b (al b h).1).1,(up b (al b h).1).2.trans (al b h).2,d309 b (al b h).1⟩:_/\_/\_)
   refine ar.dh S (fun b h=>⟨(vd b h).1,(vd b h).2.1⟩) aP fun bk=>?_
   have d311:=J.w d309 ao.sub
   have d312:=J.w d309 ev.sub
   replace ao:=ao.up up
   replace ev:=ev.up up
   clear up d309
   exact S.cZ aH [] bk fun _ S=>Ap _ _ dL dU Mq Gh bX bU _ _ _ S ev Lo ao d312 d305 (J.symm d311) vd aP
  have u5 ac w c2 ch bX bU cG cC u N β (S:aj Tryz.prog Tryz.f28.ntmps w0 ab u N β (bH.dl [] [(7,.v (R h.mem.length bX.1)),(8,.v (R 0 cG.1)),(10,.v (R h.buf.length ai.buf.1)),(12,.v (R 0 c2.1)),(14,.v (R h.ag.length ai.ag.1))] 2 []) ac w) (ba:ad w0 ab u N ch ([]:List aG) c2) (ao:ad w0 ab u N bU h.mem bX) (bh:ad w0 ab u N cC ([]:List aG) cG) (d314:J ch bU) (d315:J ch cC) (d316:J bU cC) (al:∀b,bx b->N b/\u.heap[b]? =bA.heap[b]? /\¬cC b/\¬ch b) (aP:cS bH.aM.length bS β):W 5 (cu 14 [0,1,2,3,4,5,7,8,9]) ac w:=by
   refine gx aH 6 12 ?_ (S.e0 aH (fun b h=>⟨(al b h).1,(al b h).2.1⟩) aP [] .nil fun _ _ _ S ca=>rY _ _ c2 ch bX bU cG cC _ _ _ S ba ao bh d314 d315 d316 al ca)
   have Xs:h.buf.length<=4194304:=af.le (bz.buf (d:=h) (S.arg a1))
   refine id (S.lH (α:=aG) bh (bz.buf (d:=h) (S.arg a1)) (fun _ _ h=>h) (by':=32) (d:=11) (lx:=0) (ly:=h.buf.length) rfl fun ac w N Mr Gi S up Lp d320=>?_)
   have ve:=fun b h=>(⟨(up b (al b h).1 (al b h).2.2.1).1,(up b (al b h).1 (al b h).2.2.1).2.trans (al b h).2.1,(al b h).2.2.2⟩:_/\_/\_)
   refine ar.dh S (fun b h=>⟨(ve b h).1,(ve b h).2.1⟩) aP fun bk=>?_
   have d323:=d320 _ d316 ao.sub
   have d324:=d320 _ d315 ba.sub
   replace ao:=ao.bw d316 up
   replace ba:=ba.bw d315 up
   clear up d320
   exact S.cZ aH [] bk fun _ S=>Ap _ _ Mr Gi c2 ch bX bU _ _ _ S Lp ba ao (J.symm d324) (J.symm d323) d314 ve aP
  have u6 ac w bX bU cG cC u N β (S:aj Tryz.prog Tryz.f28.ntmps w0 ab u N β (bH.dl [] [(3,.p 2 0),(7,.v (R h.mem.length bX.1)),(8,.v (R 0 cG.1)),(10,.v (R h.buf.length ai.buf.1)),(14,.v (R h.ag.length ai.ag.1))] 3 [(2,ck ah)]) ac w) (ao:ad w0 ab u N bU h.mem bX) (bh:ad w0 ab u N cC ([]:List aG) cG) (d326:J bU cC) (al:∀b,bx b->N b/\u.heap[b]? =bA.heap[b]? /\¬cC b) (aP:cS bH.aM.length bS β):W 5 (cu 14 [0,1,2,3,4,5,8,9,12]) ac w:=by
   refine gx aH 6 7 ?_ ?_
   ·have Xt:h.buf.length<=4194304:=af.le (bz.buf (d:=h) (S.arg a1))
    refine id (S.lH (α:=aG) bh (bz.buf (d:=h) (S.arg a1)) (fun _ _ h=>h) (by':=32) (d:=11) (lx:=0) (ly:=h.buf.length) rfl fun ac w N Ms Gj S up Lq d330=>?_)
    have AD:=fun b h=>(⟨(up b (al b h).1 (al b h).2.2).1,(up b (al b h).1 (al b h).2.2).2.trans (al b h).2.1⟩:_/\_)
    refine ar.dh S AD aP fun bk=>?_
    have d333:=d330 _ d326 ao.sub
    replace ao:=ao.bw d326 up
    clear up d330
    exact S.cZ aH [] bk fun _ S=>Aq _ _ Ms Gj bX bU _ _ _ S Lq ao (J.symm d333) AD aP
   ·refine id (S.fA (α:=aG) (d:=12) (by kernel_rfl) fun ac w N Mt Gk S up Lr d337=>?_)
    have vf:=fun b h=>(⟨(up b (al b h).1).1,(up b (al b h).1).2.trans (al b h).2.1,(al b h).2.2,d337 b (al b h).1⟩:_/\_/\_/\_)
    refine ar.dh S (fun b h=>⟨(vf b h).1,(vf b h).2.1⟩) aP fun bk=>?_
    have d339:=J.w d337 ao.sub
    have d340:=J.w d337 bh.sub
    replace ao:=ao.up up
    replace bh:=bh.up up
    clear up d337
    exact S.cZ aH [] bk fun _ S=>rY _ _ Mt Gk bX bU cG cC _ _ _ S Lr ao bh (J.symm d339) (J.symm d340) d326 vf aP
  have u7 ac w c2 ch bX bU u N β (S:aj Tryz.prog Tryz.f28.ntmps w0 ab u N β (bH.dl [] [(3,.p 2 0),(7,.v (R h.mem.length bX.1)),(10,.v (R h.buf.length ai.buf.1)),(12,.v (R 0 c2.1)),(14,.v (R h.ag.length ai.ag.1))] 3 [(2,ck ah)]) ac w) (ba:ad w0 ab u N ch ([]:List aG) c2) (ao:ad w0 ab u N bU h.mem bX) (d342:J ch bU) (al:∀b,bx b->N b/\u.heap[b]? =bA.heap[b]? /\¬ch b) (aP:cS bH.aM.length bS β):W 5 (cu 14 [0,1,2,4,5,7,8,9,12]) ac w:=by
   refine en aH 3 ?_
   refine id (S.fA (α:=aG) (d:=8) (by kernel_rfl) fun ac w N Mu Gl S up Ls d346=>?_)
   have vg:=fun b h=>(⟨(up b (al b h).1).1,(up b (al b h).1).2.trans (al b h).2.1,d346 b (al b h).1,(al b h).2.2⟩:_/\_/\_/\_)
   refine ar.dh S (fun b h=>⟨(vg b h).1,(vg b h).2.1⟩) aP fun bk=>?_
   have d348:=J.w d346 ao.sub
   have d349:=J.w d346 ba.sub
   replace ao:=ao.up up
   replace ba:=ba.up up
   clear up d346
   exact S.cZ aH [] bk fun _ S=>rY _ _ c2 ch bX bU Mu Gl _ _ _ S ba ao Ls d342 d349 d348 vg aP
  have u9 ac w c2 ch cG cC u N β (S:aj Tryz.prog Tryz.f28.ntmps w0 ab u N β (bH.dl [] [(3,.p 2 0),(6,.v (R h.mem.length ai.mem.1)),(8,.v (R 0 cG.1)),(10,.v (R h.buf.length ai.buf.1)),(12,.v (R 0 c2.1)),(14,.v (R h.ag.length ai.ag.1))] 3 [(2,ck ah)]) ac w) (ba:ad w0 ab u N ch ([]:List aG) c2) (bh:ad w0 ab u N cC ([]:List aG) cG) (d351:J ch cC) (al:∀b,bx b->N b/\u.heap[b]? =bA.heap[b]? /\¬cC b/\¬ch b) (aP:cS bH.aM.length bS β):W 5 (cu 14 [0,1,3,4,5,7,8,9,12]) ac w:=by
   refine en aH 2 ?_
   refine id (S.dz 7 (pU w h.mem ai.mem (S.rd (bz.mem (d:=h) (S.arg a1)))) fun ac w N Mv Gm S up Lt d355=>?_)
   have vh:=fun b h=>(⟨(up b (al b h).1).1,(up b (al b h).1).2.trans (al b h).2.1,(al b h).2.2.1,(al b h).2.2.2⟩:_/\_/\_/\_)
   refine ar.dh S (fun b h=>⟨(vh b h).1,(vh b h).2.1⟩) aP fun bk=>?_
   have d357:=J.w d355 bh.sub
   have d358:=J.w d355 ba.sub
   replace bh:=bh.up up
   replace ba:=ba.up up
   clear up d355
   exact S.cZ aH [] bk fun _ S=>rY _ _ c2 ch Mv Gm cG cC _ _ _ S ba Lt bh d358 d351 (J.symm d357) vh aP
  have Ar ac w bX bU cG cC u N β (S:aj Tryz.prog Tryz.f28.ntmps w0 ab u N β (bH.dl [] [(7,.v (R h.mem.length bX.1)),(8,.v (R 0 cG.1)),(10,.v (R h.buf.length ai.buf.1)),(14,.v (R h.ag.length ai.ag.1))] 2 []) ac w) (ao:ad w0 ab u N bU h.mem bX) (bh:ad w0 ab u N cC ([]:List aG) cG) (d360:J bU cC) (al:∀b,bx b->N b/\u.heap[b]? =bA.heap[b]? /\¬cC b) (aP:cS bH.aM.length bS β):W 6 (cu 14 [0,1,2,3,4,5,8,9]) ac w:=by
   refine ra aH 6 7 12 ?_ ?_ (S.e0 aH (fun b h=>⟨(al b h).1,(al b h).2.1⟩) aP [] .nil fun _ _ _ S ca=>u6 _ _ bX bU cG cC _ _ _ S ao bh d360 al ca)
   ·have Xv:h.buf.length<=4194304:=af.le (bz.buf (d:=h) (S.arg a1))
    refine id (S.lH (α:=aG) bh (bz.buf (d:=h) (S.arg a1)) (fun _ _ h=>h) (by':=32) (d:=11) (lx:=0) (ly:=h.buf.length) rfl fun ac w N Mw Gn S up Lu d364=>?_)
    have AE:=fun b h=>(⟨(up b (al b h).1 (al b h).2.2).1,(up b (al b h).1 (al b h).2.2).2.trans (al b h).2.1⟩:_/\_)
    refine ar.dh S AE aP fun bk=>?_
    have Hp:=d364 _ d360 ao.sub
    replace ao:=ao.bw d360 up
    clear up d364
    exact S.cZ aH [] bk fun _ S=>IZ _ _ Mw Gn bX bU _ _ _ S Lu ao (J.symm Hp) AE aP
   ·refine id (S.fA (α:=aG) (d:=12) (by kernel_rfl) fun ac w N Mx Gp S up Lv rJ=>?_)
    have vi:=fun b h=>(⟨(up b (al b h).1).1,(up b (al b h).1).2.trans (al b h).2.1,(al b h).2.2,rJ b (al b h).1⟩:_/\_/\_/\_)
    refine ar.dh S (fun b h=>⟨(vi b h).1,(vi b h).2.1⟩) aP fun bk=>?_
    have Hq:=J.w rJ ao.sub
    have Hr:=J.w rJ bh.sub
    replace ao:=ao.up up
    replace bh:=bh.up up
    clear up rJ
    exact S.cZ aH [] bk fun _ S=>u5 _ _ Mx Gp bX bU cG cC _ _ _ S Lv ao bh (J.symm Hq) (J.symm Hr) d360 vi aP
  have As ac w c2 ch bX bU u N β (S:aj Tryz.prog Tryz.f28.ntmps w0 ab u N β (bH.dl [] [(7,.v (R h.mem.length bX.1)),(10,.v (R h.buf.length ai.buf.1)),(12,.v (R 0 c2.1)),(14,.v (R h.ag.length ai.ag.1))] 2 []) ac w) (ba:ad w0 ab u N ch ([]:List aG) c2) (ao:ad w0 ab u N bU h.mem bX) (rK:J ch bU) (al:∀b,bx b->N b/\u.heap[b]? =bA.heap[b]? /\¬ch b) (aP:cS bH.aM.length bS β):W 6 (cu 14 [0,1,2,4,5,7,8,9]) ac w:=by
   refine gx aH 3 12 ?_ (S.e0 aH (fun b h=>⟨(al b h).1,(al b h).2.1⟩) aP [] .nil fun _ _ _ S ca=>u7 _ _ c2 ch bX bU _ _ _ S ba ao rK al ca)
   refine id (S.fA (α:=aG) (d:=8) (by kernel_rfl) fun ac w N My Gq S up Lw rL=>?_)
   have vj:=fun b h=>(⟨(up b (al b h).1).1,(up b (al b h).1).2.trans (al b h).2.1,rL b (al b h).1,(al b h).2.2⟩:_/\_/\_/\_)
   refine ar.dh S (fun b h=>⟨(vj b h).1,(vj b h).2.1⟩) aP fun bk=>?_
   have rM:=J.w rL ao.sub
   have Hs:=J.w rL ba.sub
   replace ao:=ao.up up
   replace ba:=ba.up up
   clear up rL
   exact S.cZ aH [] bk fun _ S=>u5 _ _ c2 ch bX bU My Gq _ _ _ S ba ao Lw rK Hs rM vj aP
  have At ac w bX bU u N β (S:aj Tryz.prog Tryz.f28.ntmps w0 ab u N β (bH.dl [] [(3,.p 2 0),(7,.v (R h.mem.length bX.1)),(10,.v (R h.buf.length ai.buf.1)),(14,.v (R h.ag.length ai.ag.1))] 3 [(2,ck ah)]) ac w) (ao:ad w0 ab u N bU h.mem bX) (al:d_ bx bA N u) (aP:cS bH.aM.length bS β):W 6 (cu 14 [0,1,2,4,5,8,9,12]) ac w:=by
   refine gx aH 3 7 ?_ ?_
   ·refine id (S.fA (α:=aG) (d:=8) (by kernel_rfl) fun ac w N Mz Gr S up Lx qG=>?_)
    have vk:=fun b h=>(⟨(up b (al b h).1).1,(up b (al b h).1).2.trans (al b h).2,qG b (al b h).1⟩:_/\_/\_)
    refine ar.dh S (fun b h=>⟨(vk b h).1,(vk b h).2.1⟩) aP fun bk=>?_
    have zQ:=J.w qG ao.sub
    replace ao:=ao.up up
    clear up qG
    exact S.cZ aH [] bk fun _ S=>u6 _ _ bX bU Mz Gr _ _ _ S ao Lx zQ vk aP
   ·refine id (S.fA (α:=aG) (d:=12) (by kernel_rfl) fun ac w N MA CN S up tC uD=>?_)
    have vl:=fun b h=>(⟨(up b (al b h).1).1,(up b (al b h).1).2.trans (al b h).2,uD b (al b h).1⟩:_/\_/\_)
    refine ar.dh S (fun b h=>⟨(vl b h).1,(vl b h).2.1⟩) aP fun bk=>?_
    have Ht:=J.w uD ao.sub
    replace ao:=ao.up up
    clear up uD
    exact S.cZ aH [] bk fun _ S=>u7 _ _ MA CN bX bU _ _ _ S tC ao (J.symm Ht) vl aP
  have Au ac w c2 ch cG cC u N β (S:aj Tryz.prog Tryz.f28.ntmps w0 ab u N β (bH.dl [] [(6,.v (R h.mem.length ai.mem.1)),(8,.v (R 0 cG.1)),(10,.v (R h.buf.length ai.buf.1)),(12,.v (R 0 c2.1)),(14,.v (R h.ag.length ai.ag.1))] 2 []) ac w) (ba:ad w0 ab u N ch ([]:List aG) c2) (bh:ad w0 ab u N cC ([]:List aG) cG) (zR:J ch cC) (al:∀b,bx b->N b/\u.heap[b]? =bA.heap[b]? /\¬cC b/\¬ch b) (aP:cS bH.aM.length bS β):W 6 (cu 14 [0,1,3,4,5,7,8,9]) ac w:=by
   refine gx aH 2 12 ?_ (S.e0 aH (fun b h=>⟨(al b h).1,(al b h).2.1⟩) aP [] .nil fun _ _ _ S ca=>u9 _ _ c2 ch cG cC _ _ _ S ba bh zR al ca)
   refine id (S.dz 7 (pU w h.mem ai.mem (S.rd (bz.mem (d:=h) (S.arg a1)))) fun ac w N MB Gs S up Ly uE=>?_)
   have vm:=fun b h=>(⟨(up b (al b h).1).1,(up b (al b h).1).2.trans (al b h).2.1,(al b h).2.2.1,(al b h).2.2.2⟩:_/\_/\_/\_)
   refine ar.dh S (fun b h=>⟨(vm b h).1,(vm b h).2.1⟩) aP fun bk=>?_
   have Hu:=J.w uE bh.sub
   have Hv:=J.w uE ba.sub
   replace bh:=bh.up up
   replace ba:=ba.up up
   clear up uE
   exact S.cZ aH [] bk fun _ S=>u5 _ _ c2 ch MB Gs cG cC _ _ _ S ba Ly bh Hv zR (J.symm Hu) vm aP
  have Aw ac w cG cC u N β (S:aj Tryz.prog Tryz.f28.ntmps w0 ab u N β (bH.dl [] [(3,.p 2 0),(6,.v (R h.mem.length ai.mem.1)),(8,.v (R 0 cG.1)),(10,.v (R h.buf.length ai.buf.1)),(14,.v (R h.ag.length ai.ag.1))] 3 [(2,ck ah)]) ac w) (bh:ad w0 ab u N cC ([]:List aG) cG) (al:∀b,bx b->N b/\u.heap[b]? =bA.heap[b]? /\¬cC b) (aP:cS bH.aM.length bS β):W 6 (cu 14 [0,1,3,4,5,8,9,12]) ac w:=by
   refine gx aH 2 7 ?_ ?_
   ·refine id (S.dz 7 (pU w h.mem ai.mem (S.rd (bz.mem (d:=h) (S.arg a1)))) fun ac w N MC Gt S up Lz uF=>?_)
    have vn:=fun b h=>(⟨(up b (al b h).1).1,(up b (al b h).1).2.trans (al b h).2.1,(al b h).2.2⟩:_/\_/\_)
    refine ar.dh S (fun b h=>⟨(vn b h).1,(vn b h).2.1⟩) aP fun bk=>?_
    have Hw:=J.w uF bh.sub
    replace bh:=bh.up up
    clear up uF
    exact S.cZ aH [] bk fun _ S=>u6 _ _ MC Gt cG cC _ _ _ S Lz bh (J.symm Hw) vn aP
   ·refine id (S.fA (α:=aG) (d:=12) (by kernel_rfl) fun ac w N MD Gu S up LA uG=>?_)
    have vo:=fun b h=>(⟨(up b (al b h).1).1,(up b (al b h).1).2.trans (al b h).2.1,(al b h).2.2,uG b (al b h).1⟩:_/\_/\_/\_)
    refine ar.dh S (fun b h=>⟨(vo b h).1,(vo b h).2.1⟩) aP fun bk=>?_
    have Hx:=J.w uG bh.sub
    replace bh:=bh.up up
    clear up uG
    exact S.cZ aH [] bk fun _ S=>u9 _ _ MD Gu cG cC _ _ _ S LA bh (J.symm Hx) vo aP
  have Ax ac w c2 ch u N β (S:aj Tryz.prog Tryz.f28.ntmps w0 ab u N β (bH.dl [] [(3,.p 2 0),(6,.v (R h.mem.length ai.mem.1)),(10,.v (R h.buf.length ai.buf.1)),(12,.v (R 0 c2.1)),(14,.v (R h.ag.length ai.ag.1))] 3 [(2,ck ah)]) ac w) (ba:ad w0 ab u N ch ([]:List aG) c2) (al:∀b,bx b->N b/\u.heap[b]? =bA.heap[b]? /\¬ch b) (aP:cS bH.aM.length bS β):W 6 (cu 14 [0,1,4,5,7,8,9,12]) ac w:=by
   refine gx aH 2 3 ?_ ?_
   ·refine id (S.dz 7 (pU w h.mem ai.mem (S.rd (bz.mem (d:=h) (S.arg a1)))) fun ac w N ME Gv S up LB zT=>?_)
    have vp:=fun b h=>(⟨(up b (al b h).1).1,(up b (al b h).1).2.trans (al b h).2.1,(al b h).2.2⟩:_/\_/\_)
    refine ar.dh S (fun b h=>⟨(vp b h).1,(vp b h).2.1⟩) aP fun bk=>?_
    have Hy:=J.w zT ba.sub
    replace ba:=ba.up up
    clear up zT
    exact S.cZ aH [] bk fun _ S=>u7 _ _ c2 ch ME Gv _ _ _ S ba LB Hy vp aP
   ·refine id (S.fA (α:=aG) (d:=8) (by kernel_rfl) fun ac w N MF Gw S up LC rN=>?_)
    have vq:=fun b h=>(⟨(up b (al b h).1).1,(up b (al b h).1).2.trans (al b h).2.1,rN b (al b h).1,(al b h).2.2⟩:_/\_/\_/\_)
    refine ar.dh S (fun b h=>⟨(vq b h).1,(vq b h).2.1⟩) aP fun bk=>?_
    have Hz:=J.w rN ba.sub
    replace ba:=ba.up up
    clear up rN
    exact S.cZ aH [] bk fun _ S=>u9 _ _ c2 ch MF Gw _ _ _ S ba LC Hz vq aP
  have I1 ac w bX bU u N β (S:aj Tryz.prog Tryz.f28.ntmps w0 ab u N β (bH.dl [] [(7,.v (R h.mem.length bX.1)),(10,.v (R h.buf.length ai.buf.1)),(14,.v (R h.ag.length ai.ag.1))] 2 []) ac w) (ao:ad w0 ab u N bU h.mem bX) (al:d_ bx bA N u) (aP:cS bH.aM.length bS β):W 7 (cu 14 [0,1,2,4,5,8,9]) ac w:=by
   refine ra aH 3 7 12 ?_ ?_ (S.e0 aH al aP [] .nil fun _ _ _ S ca=>At _ _ bX bU _ _ _ S ao al ca)
   ·refine id (S.fA (α:=aG) (d:=8) (by kernel_rfl) fun ac w N MG Gy S up LD uH=>?_)
    have vr:=fun b h=>(⟨(up b (al b h).1).1,(up b (al b h).1).2.trans (al b h).2,uH b (al b h).1⟩:_/\_/\_)
    refine ar.dh S (fun b h=>⟨(vr b h).1,(vr b h).2.1⟩) aP fun bk=>?_
    have HA:=J.w uH ao.sub
    replace ao:=ao.up up
    clear up uH
    exact S.cZ aH [] bk fun _ S=>Ar _ _ bX bU MG Gy _ _ _ S ao LD HA vr aP
   ·refine id (S.fA (α:=aG) (d:=12) (by kernel_rfl) fun ac w N MH Gz S up LF uI=>?_)
    have vs:=fun b h=>(⟨(up b (al b h).1).1,(up b (al b h).1).2.trans (al b h).2,uI b (al b h).1⟩:_/\_/\_)
    refine ar.dh S (fun b h=>⟨(vs b h).1,(vs b h).2.1⟩) aP fun bk=>?_
    have HB:=J.w uI ao.sub
    replace ao:=ao.up up
    clear up uI
    exact S.cZ aH [] bk fun _ S=>As _ _ MH Gz bX bU _ _ _ S LF ao (J.symm HB) vs aP
  have I2 ac w cG cC u N β (S:aj Tryz.prog Tryz.f28.ntmps w0 ab u N β (bH.dl [] [(6,.v (R h.mem.length ai.mem.1)),(8,.v (R 0 cG.1)),(10,.v (R h.buf.length ai.buf.1)),(14,.v (R h.ag.length ai.ag.1))] 2 []) ac w) (bh:ad w0 ab u N cC ([]:List aG) cG) (al:∀b,bx b->N b/\u.heap[b]? =bA.heap[b]? /\¬cC b) (aP:cS bH.aM.length bS β):W 7 (cu 14 [0,1,3,4,5,8,9]) ac w:=by
   refine ra aH 2 7 12 ?_ ?_ (S.e0 aH (fun b h=>⟨(al b h).1,(al b h).2.1⟩) aP [] .nil fun _ _ _ S ca=>Aw _ _ cG cC _ _ _ S bh al ca)
   ·refine id (S.dz 7 (pU w h.mem ai.mem (S.rd (bz.mem (d:=h) (S.arg a1)))) fun ac w N MI GA S up LG uJ=>?_)
    have vt:=fun b h=>(⟨(up b (al b h).1).1,(up b (al b h).1).2.trans (al b h).2.1,(al b h).2.2⟩:_/\_/\_)
    refine ar.dh S (fun b h=>⟨(vt b h).1,(vt b h).2.1⟩) aP fun bk=>?_
    have HC:=J.w uJ bh.sub
    replace bh:=bh.up up
    clear up uJ
    exact S.cZ aH [] bk fun _ S=>Ar _ _ MI GA cG cC _ _ _ S LG bh (J.symm HC) vt aP
   ·refine id (S.fA (α:=aG) (d:=12) (by kernel_rfl) fun ac w N MJ GB S up Bz uK=>?_)
    have vu:=fun b h=>(⟨(up b (al b h).1).1,(up b (al b h).1).2.trans (al b h).2.1,(al b h).2.2,uK b (al b h).1⟩:_/\_/\_/\_)
    refine ar.dh S (fun b h=>⟨(vu b h).1,(vu b h).2.1⟩) aP fun bk=>?_
    have HD:=J.w uK bh.sub
    replace bh:=bh.up up
    clear up uK
    exact S.cZ aH [] bk fun _ S=>Au _ _ MJ GB cG cC _ _ _ S Bz bh (J.symm HD) vu aP
  have I3 ac w c2 ch u N β (S:aj Tryz.prog Tryz.f28.ntmps w0 ab u N β (bH.dl [] [(6,.v (R h.mem.length ai.mem.1)),(10,.v (R h.buf.length ai.buf.1)),(12,.v (R 0 c2.1)),(14,.v (R h.ag.length ai.ag.1))] 2 []) ac w) (ba:ad w0 ab u N ch ([]:List aG) c2) (al:∀b,bx b->N b/\u.heap[b]? =bA.heap[b]? /\¬ch b) (aP:cS bH.aM.length bS β):W 7 (cu 14 [0,1,4,5,7,8,9]) ac w:=by
   refine ra aH 2 3 12 ?_ ?_ (S.e0 aH (fun b h=>⟨(al b h).1,(al b h).2.1⟩) aP [] .nil fun _ _ _ S ca=>Ax _ _ c2 ch _ _ _ S ba al ca)
   ·refine id (S.dz 7 (pU w h.mem ai.mem (S.rd (bz.mem (d:=h) (S.arg a1)))) fun ac w N MK GC S up LH zU=>?_)
    have vv:=fun b h=>(⟨(up b (al b h).1).1,(up b (al b h).1).2.trans (al b h).2.1,(al b h).2.2⟩:_/\_/\_)
    refine ar.dh S (fun b h=>⟨(vv b h).1,(vv b h).2.1⟩) aP fun bk=>?_
    have HE:=J.w zU ba.sub
    replace ba:=ba.up up
    clear up zU
    exact S.cZ aH [] bk fun _ S=>As _ _ c2 ch MK GC _ _ _ S ba LH HE vv aP
   ·refine id (S.fA (α:=aG) (d:=8) (by kernel_rfl) fun ac w N ML GD S up LI rO=>?_)
    have vw:=fun b h=>(⟨(up b (al b h).1).1,(up b (al b h).1).2.trans (al b h).2.1,rO b (al b h).1,(al b h).2.2⟩:_/\_/\_/\_)
    refine ar.dh S (fun b h=>⟨(vw b h).1,(vw b h).2.1⟩) aP fun bk=>?_
    have HF:=J.w rO ba.sub
    replace ba:=ba.up up
    clear up rO
    exact S.cZ aH [] bk fun _ S=>Au _ _ c2 ch ML GD _ _ _ S ba LI HF vw aP
  have I4 ac w u N β (S:aj Tryz.prog Tryz.f28.ntmps w0 ab u N β (bH.dl [] [(3,.p 2 0),(6,.v (R h.mem.length ai.mem.1)),(10,.v (R h.buf.length ai.buf.1)),(14,.v (R h.ag.length ai.ag.1))] 3 [(2,ck ah)]) ac w) (al:d_ bx bA N u) (aP:cS bH.aM.length bS β):W 7 (cu 14 [0,1,4,5,8,9,12]) ac w:=by
   refine ra aH 2 3 7 ?_ ?_ ?_
   ·refine id (S.dz 7 (pU w h.mem ai.mem (S.rd (bz.mem (d:=h) (S.arg a1)))) fun ac w N MM GF S up LJ HG=>?_)
    have AG:=fun b h=>(⟨(up b (al b h).1).1,(up b (al b h).1).2.trans (al b h).2⟩:_/\_)
    refine ar.dh S AG aP fun bk=>?_
    clear up HG
    exact S.cZ aH [] bk fun _ S=>At _ _ MM GF _ _ _ S LJ AG aP
   ·refine id (S.fA (α:=aG) (d:=8) (by kernel_rfl) fun ac w N MN GG S up LK zV=>?_)
    have vx:=fun b h=>(⟨(up b (al b h).1).1,(up b (al b h).1).2.trans (al b h).2,zV b (al b h).1⟩:_/\_/\_)
    refine ar.dh S (fun b h=>⟨(vx b h).1,(vx b h).2.1⟩) aP fun bk=>?_
    clear up zV
    exact S.cZ aH [] bk fun _ S=>Aw _ _ MN GG _ _ _ S LK vx aP
   ·refine id (S.fA (α:=aG) (d:=12) (by kernel_rfl) fun ac w N MO GH S up LL zW=>?_)
    have vy:=fun b h=>(⟨(up b (al b h).1).1,(up b (al b h).1).2.trans (al b h).2,zW b (al b h).1⟩:_/\_/\_)
    refine ar.dh S (fun b h=>⟨(vy b h).1,(vy b h).2.1⟩) aP fun bk=>?_
    clear up zW
    exact S.cZ aH [] bk fun _ S=>Ax _ _ MO GH _ _ _ S LL vy aP
  have al:d_ bx bA bx bA:=fun b h=>⟨h,rfl⟩
  have aP:cS bH.aM.length bS bS:=fun _ _=>rfl
  refine UN aH 2 3 7 12 ?_ ?_ ?_ (S.e0 aH al aP [] .nil fun _ _ _ S ca=>I4 _ _ _ _ _ S al ca)
  ·refine id (S.dz 7 (pU w h.mem ai.mem (S.rd (bz.mem (d:=h) (S.arg a1)))) fun ac w N MP GI S up LM HH=>?_)
   have AH:=fun b h=>(⟨(up b (al b h).1).1,(up b (al b h).1).2.trans (al b h).2⟩:_/\_)
   refine ar.dh S AH aP fun bk=>?_
   clear up HH
   exact S.cZ aH [] bk fun _ S=>I1 _ _ MP GI _ _ _ S LM AH aP
  ·refine id (S.fA (α:=aG) (d:=8) (by kernel_rfl) fun ac w N MQ GJ S up LN zX=>?_)
   have vz:=fun b h=>(⟨(up b (al b h).1).1,(up b (al b h).1).2.trans (al b h).2,zX b (al b h).1⟩:_/\_/\_)
   refine ar.dh S (fun b h=>⟨(vz b h).1,(vz b h).2.1⟩) aP fun bk=>?_
   clear up zX
   exact S.cZ aH [] bk fun _ S=>I2 _ _ MQ GJ _ _ _ S LN vz aP
  ·refine id (S.fA (α:=aG) (d:=12) (by kernel_rfl) fun ac w N nX GK S up LO zY=>?_)
   have vA:=fun b h=>(⟨(up b (al b h).1).1,(up b (al b h).1).2.trans (al b h).2,zY b (al b h).1⟩:_/\_/\_)
   refine ar.dh S (fun b h=>⟨(vA b h).1,(vA b h).2.1⟩) aP fun bk=>?_
   clear up zY
   exact S.cZ aH [] bk fun _ S=>I3 _ _ nX GK _ _ _ S LO vA aP
 clear S
 rintro ac w ⟨hJ,jk,jf,jw,iU,iW,u,N,β,S,fR,gF,gX,HI,rP,zZ⟩
 refine S.ex fun S=>?_
 refine S.go 8 .nil fun ac w β S=>?_
 have BC:=S.mw (α:=aO)
 refine dc (fun a5 ac w=>∃(i:Nat) (acc:List aO) (oM:_) (pM:_) (u:_) (N:_) (β:_),a5=h.I.length-i/\(i<=h.I.length)/\(acc=h.I.take i)/\aj Tryz.prog Tryz.f28.ntmps w0 ab u N β ⟨[(1,.p 0 0),(2,.p 1 0),(3,.p 2 0),(4,.v (aa (i:Int)))],[GT.cells h ai,ck ah,[R h.mem.length iU.1,R acc.length oM.1,R h.buf.length hJ.1,R h.ag.length jf.1]]⟩ ac w/\ad w0 ab u N pM acc oM/\ad w0 ab u N iW h.mem iU/\ad w0 ab u N jk h.buf hJ/\ad w0 ab u N jw h.ag jf/\J pM iW/\J pM jk/\J pM jw) _ ⟨0,([]:List aO),(GT.cY (α:=List aO)),ab,_,_,_,rfl,cv,(by rfl),S.z,BC,gX,fR,gF,(J.symm (fun b _ h=>False.elim h)),(J.symm (fun b _ h=>False.elim h)),(J.symm (fun b _ h=>False.elim h))⟩ ?_
 clear S gX fR gF BC
 rintro H9 a5 Jl ac w ⟨i,acc,oM,pM,u,N,β,rfl,hi,bt,S,lZ,gX,fR,gF,uL,uM,uN⟩
 refine S.rs fun S=>?_
 have gD:acc.length=i:=by rw [bt];simp;omega
 refine S.aI 10 .nil (decide ((i:Int)<(h.I.length:Int))) (fun ac w β IL Ir S=>?_) (fun ac w β IL Ir S=>?_)
 ·refine S.go 5 .nil fun ac w β S=>?_
  refine dI ?_
  refine S.dP (f:=12) 9 (by kernel_rfl) (by kernel_rfl) fun w S=>?_
  refine S.a9 0 [1,0] [] [(24,.p 2 1)] .nil fun ac S=>?_
  refine S.a9 1 [1] [] [(25,.v (R acc.length oM.1))] .nil fun ac S=>?_
  refine S.a9 2 [7,6,5,3,2] [] [(26,.p 0 1)] .nil fun ac S=>?_
  refine S.a9 3 [7,6,5,3] [] [(27,.v (R h.I.length ai.I.1))] .nil fun ac S=>?_
  refine S.a9 4 [7,6,5,4] [] [(28,.v (aa (i:Int)))] .nil fun ac S=>?_
  refine S.a9 5 [7,6,5] [] [(29,.v (bg ai.I.1.b (ai.I.1.off+i*9)))] (.cons (b6 (bz.I (d:=h) (S.arg a1)) i Tryz.underlying28) .nil) fun ac S=>?_
  refine S.a9 6 [7,6] [] [(30,.v (GT.val (el h.I i) (ai.I.2 i)))] (.cons (dy (bz.I (d:=h) (S.arg a1)) 74 i) .nil) fun ac S=>?_
  refine ar.one (i:=7) (by kernel_rfl) ?_
  refine id (S.dz 31 (ZV w (el h.I i) (ai.I.2 i) (S.rd (af.el (bz.I (d:=h) (S.arg a1)) i (by omega)))) fun ac w N MR WB S up we pW=>?_)
  refine ar.next S up (by kernel_rfl) ?_
  have HJ:=J.w pW lZ.sub
  have HK:=J.w pW gX.sub
  have HL:=J.w pW fR.sub
  have HM:=J.w pW gF.sub
  replace lZ:=lZ.up up
  replace gX:=gX.up up
  replace fR:=fR.up up
  replace gF:=gF.up up
  clear up pW
  refine ar.one (i:=8) (by kernel_rfl) ?_
  refine id (S.pS (α:=aO) (x:=(el h.I i)) (p:=MR) we.own we.sub we.dJ (d:=32) (by kernel_rfl) fun ac w N aiR WC S up LQ pX=>?_)
  refine ar.next S up (by kernel_rfl) ?_
  have HN:=pX _ HJ lZ.sub
  have HO:=pX _ HK gX.sub
  have HP:=pX _ HL fR.sub
  have HQ:=pX _ HM gF.sub
  replace lZ:=lZ.up up
  replace gX:=gX.up up
  replace fR:=fR.up up
  replace gF:=gF.up up
  clear up pX
  refine ar.one (i:=9) (by kernel_rfl) ?_
  refine id (S.CU (α:=aO) lZ LQ HN (by':=168) (d:=33) (lx:=acc.length) (ly:=1) rfl rfl (by kernel_rfl) (show _<=4194304 by simp only [List.length_append,List.length_cons,List.length_nil];omega) fun ac w N BX GM S up LR rQ=>?_)
  refine ar.last (by kernel_rfl) ?_
  have sW:=rQ _ (J.symm uL) HO gX.sub
  have HR:=rQ _ (J.symm uM) HP fR.sub
  have HS:=rQ _ (J.symm uN) HQ gF.sub
  replace gX:=gX.bw (J.symm uL) up
  replace fR:=fR.bw (J.symm uM) up
  replace gF:=gF.bw (J.symm uN) up
  clear up rQ
  refine S.c9 10 [] [(34,.p 2 1)] 3 [] .nil fun ac w β S=>?_
  refine S.c9 11 [] [] 3 [(2,[R h.mem.length iU.1,R (acc++[(el h.I i)]).length BX.1,R h.buf.length hJ.1,R h.ag.length jf.1])] .nil fun ac w β S=>?_
  refine ar.done (by kernel_rfl) ?_ _
  refine S.ex fun S=>?_
  refine S.ge 7 (.cons (cg (i:Int) 1) .nil) H9 fun ac w β S=>Jl.of (h.I.length-(i+1)) _ _ (by omega) ⟨i+1,(acc++[(el h.I i)]),BX,GM,_,_,_,rfl,?_,?_,S.z,LR,gX,fR,gF,(J.symm sW),(J.symm HR),(J.symm HS)⟩
  ·exact cO
  ·clear S;(first|(rw [jh (by omega),bt];done)|(rw [jh (by omega),bt];simp;done))
 refine S.bq 13 .nil [GT.val (⟨h.mem,acc,h.buf,h.ag⟩:ah) (⟨iU,oM,hJ,jf⟩:cb)] fun ac w β S=>?_
 have LS:=fi (x:=(⟨h.mem,acc,h.buf,h.ag⟩:ah)) (p:=(⟨iU,oM,hJ,jf⟩:cb)) gX lZ fR gF (J.symm uL) (J.symm rP) (J.symm zZ) uM uN HI
 exact cx S (show h=(⟨h.mem,acc,h.buf,h.ag⟩:ah) by clear S;(rw [bt,fb (by omega)];first|done|rfl|(simp;done))) rfl LS
theorem TD {p:Prop} (h:p:=by clear S;first|rfl|(simp [a3, *];done)|(simp [a3, *];omega)|(simp_all [a3];done)|(simp_all [a3];omega)):p:=h
theorem fw (w0:World) (x:Int) (a:Int) (b:Int):Calls Tryz.prog 103 [aa x,aa a,aa b].toArray w0 (fun e w'=>e= .returned (B (a3 x a b))/\bu ab w0 w'):=by
 refine Calls.run ab Tryz.func103 ?_
 intro ac β S
 refine S.aI 11 .nil (decide (x>=a)) (fun ac w β h1 a8 S=>?_) (fun ac w β h1 a8 S=>?_)
 ·exact S.aq 8 .nil [B (decide (x<=b))] (a6 TD)
 exact S.aq 8 .nil [B false] (a6 TD)
theorem Hh (w0:World) (cells:List Int) (l5:aC Int) (ml:bT w0 cells l5):Calls Tryz.prog 301 [R cells.length l5.1].toArray w0 (fun e w'=>e= .returned (B (hh cells))/\bu ab w0 w'):=by
 refine Calls.run ab Tryz.func301 ?_
 intro ac β S
 have Jx:cells.length<=4194304:=af.le ml
 refine S.go 12 .nil fun ac w β S=>?_
 refine dc (fun a5 ac w=>∃(k:Nat) (u:_) (N:_) (β:_),a5=cells.length-k/\(k<=cells.length)/\((cells.take k).all (fun v=>a3 v 0 99)=true)/\aj Tryz.prog Tryz.f301.ntmps w0 ab u N β ⟨[(0,.v (R cells.length l5.1)),(3,.v (aa (k:Int)))],[]⟩ ac w) _ ⟨0,_,_,_,rfl,cv,(by simp),S.z⟩ ?_
 clear S
 rintro f1 a5 fa ac w ⟨k,u,N,β,rfl,hk,he,S⟩
 refine S.rs fun S=>?_
 refine S.aI 9 .nil (decide ((k:Int)<(cells.length:Int))) (fun ac w β aF cB S=>?_) (fun ac w β aF cB S=>?_)
 ·refine S.bb 15 (.cons (b6 (S.arg ml) k Tryz.underlying38) (.cons (cj (S.arg ml) 3 k) (.cons (aE fun w hw=>fw w (el cells k) 0 99) .nil))) (!(a3 (el cells k) 0 99)) (fun ac w β bl S=>?_) (fun ac w β bl S=>?_)
  ·have cR:=cn bl
   have gC:=dm cR
   exact S.aq 7 .nil [B false] (a6 (by clear S;(first|(unfold hh;rw [l9 (k:=k) (by omega) (by first|assumption|simp_all)];simp;done)|(unfold hh;rw [eR (by omega) he];simp;done)|(unfold hh;rw [eR (by omega) he];simp [*];done)|(unfold hh;rw [eR (by omega) he];simp;omega))))
  have db:=b_ bl
  have fx:=cU db
  refine S.ge 9 (.cons (cg (k:Int) 1) .nil) f1 fun ac w β S=>fa.of (cells.length-(k+1)) _ _ (by omega) ⟨k+1,_,_,_,rfl,?_,?_,S.z⟩
  ·exact cO
  ·clear S;exact pP (by omega) he (by first|assumption|(simp only [g5,a3] at*;simp_all;done)|(simp_all;done)|(simp_all;omega))
 exact S.aq 15 .nil [B ((cells.length:Int)==4)] (a6 (by clear S;(first|(unfold hh;rw [eR (by omega) he];simp;done)|(unfold hh;rw [eR (by omega) he];simp [*];done)|(unfold hh;rw [eR (by omega) he];simp;omega)|(unfold hh;rw [l9 (k:=k) (by omega) (by first|assumption|simp_all)];simp;done))))
theorem ZD (w0:World) (m:List (List Int)) (pm:aC (List Int)) (hm:bT w0 m pm) (eh:Int):Calls Tryz.prog 219 [R m.length pm.1,aa eh].toArray w0 (fun e w'=>e= .returned (B (h6 m eh))/\bu ab w0 w'):=by
 refine Calls.run ab Tryz.func219 ?_
 intro ac β S
 have qW:m.length<=4194304:=af.le hm
 refine S.go 12 .nil fun ac w β S=>?_
 refine dc (fun a5 ac w=>∃(k:Nat) (u:_) (N:_) (β:_),a5=m.length-k/\(k<=m.length)/\((m.take k).all hh=true)/\aj Tryz.prog Tryz.f219.ntmps w0 ab u N β ⟨[(0,.v (R m.length pm.1)),(1,.v (aa eh)),(5,.v (aa (k:Int)))],[]⟩ ac w) _ ⟨0,_,_,_,rfl,cv,(by simp),S.z⟩ ?_
 clear S
 rintro f1 a5 fa ac w ⟨k,u,N,β,rfl,hk,he,S⟩
 refine S.rs fun S=>?_
 refine S.aI 9 .nil (decide ((k:Int)<(m.length:Int))) (fun ac w β aF cB S=>?_) (fun ac w β aF cB S=>?_)
 ·refine S.bb 15 (.cons (b6 (S.arg hm) k Tryz.underlying22) (.cons (cj (S.arg hm) 38 k) (.cons (aE fun w hw=>Hh w (el m k) (pm.2 k) (bN (af.el (S.arg hm) k (by omega)) hw)) .nil))) (!(hh (el m k))) (fun ac w β bl S=>?_) (fun ac w β bl S=>?_)
  ·have cR:=cn bl
   exact S.aq 7 .nil [B false] (a6 (by clear S;(first|(unfold h6;rw [l9 (k:=k) (by omega) (by first|assumption|simp_all)];simp;done)|(unfold h6;rw [eR (by omega) he];simp;done)|(unfold h6;rw [eR (by omega) he];simp [*];done)|(unfold h6;rw [eR (by omega) he];simp;omega))))
  have cD:=b_ bl
  refine S.ge 9 (.cons (cg (k:Int) 1) .nil) f1 fun ac w β S=>fa.of (m.length-(k+1)) _ _ (by omega) ⟨k+1,_,_,_,rfl,?_,?_,S.z⟩
  ·exact cO
  ·clear S;exact pP (by omega) he (by first|assumption|(simp only [g5,a3] at*;simp_all;done)|(simp_all;done)|(simp_all;omega))
 exact S.aq 16 .nil [B ((m.length:Int)==eh)] (a6 (by clear S;(first|(unfold h6;rw [eR (by omega) he];simp;done)|(unfold h6;rw [eR (by omega) he];simp [*];done)|(unfold h6;rw [eR (by omega) he];simp;omega)|(unfold h6;rw [l9 (k:=k) (by omega) (by first|assumption|simp_all)];simp;done))))
theorem Ts {p:Prop} (h:p:=by clear S;(first|(unfold oc;rw [show b.length=i by omega,he];first|rfl|(simp [*];done)|(simp;omega)|(rw [Bool.eq_iff_iff];simp;omega))|(unfold oc;rw [FE (k:=i) (by omega) (FE (k:=k) (by omega) (by simp_all<;>fail))];rfl))):p:=h
theorem PM (w0:World) (b:List aG) (bB:aC aG) (hb:bT w0 b bB):Calls Tryz.prog 220 [R b.length bB.1].toArray w0 (fun e w'=>e= .returned (B (oc b))/\bu ab w0 w'):=by
 refine Calls.run ab Tryz.func220 ?_
 intro ac β S
 have kD:b.length<=4194304:=af.le hb
 refine S.go 12 .nil fun ac w β S=>?_
 refine dc (fun a5 ac w=>∃(i:Nat) (u:_) (N:_) (β:_),a5=b.length-i/\(i<=b.length)/\((List.range i).all (fun i=>(List.range i).all fun k=>!(decide ((el b i).tag=(el b k).tag)&&decide ((el b i).page=(el b k).page)))=true)/\aj Tryz.prog Tryz.f220.ntmps w0 ab u N β ⟨[(0,.v (R b.length bB.1)),(3,.v (aa (i:Int)))],[]⟩ ac w) _ ⟨0,_,_,_,rfl,cv,(by rfl),S.z⟩ ?_
 clear S
 rintro f1 a5 fa ac w ⟨i,u,N,β,rfl,hi,he,S⟩
 refine S.rs fun S=>?_
 refine S.aI 9 .nil (decide ((i:Int)<(b.length:Int))) (fun ac w β aF cB S=>?_) (fun ac w β aF cB S=>?_)
 ·refine S.go 11 .nil fun ac w β S=>?_
  refine dc (fun a5 ac w=>∃(k:Nat) (u:_) (N:_) (β:_),a5=i-k/\(k<=i)/\((List.range k).all (fun k=>!(decide ((el b i).tag=(el b k).tag)&&decide ((el b i).page=(el b k).page)))=true)/\aj Tryz.prog Tryz.f220.ntmps w0 ab u N β ⟨[(0,.v (R b.length bB.1)),(3,.v (aa (i:Int))),(4,.v (aa (k:Int)))],[]⟩ ac w) _ ⟨0,_,_,_,rfl,cv,(by rfl),S.z⟩ ?_
  clear S
  rintro f5 a5 Sj ac w ⟨k,u,N,β,rfl,hk,kC,S⟩
  refine S.rs fun S=>?_
  have aaS:k<i->el (b.take i) k=el b k:=fun h=>QB h
  refine S.aI 8 .nil (decide ((k:Int)<(i:Int))) (fun ac w β cD e_ S=>?_) (fun ac w β cD e_ S=>?_)
  ·refine S.go 6 .nil fun ac w β S=>?_
   refine dI ?_
   rcases Bool.eq_false_or_eq_true ((el b i).tag==(el b k).tag) with et|et
   ·have iP:(el b i).tag=(el b k).tag:=eq_of_beq et
    refine S.oa [(11,true)] (keep:=[0,3,4,39]) (m:=0) (σ':=⟨[(0,.v (R b.length bB.1)),(3,.v (aa (i:Int))),(4,.v (aa (k:Int))),(39,.v (B ((el b i).page==(el b k).page)))],[]⟩) (.cons (b6 (S.arg hb) i Tryz.underlying29) (.cons (cz (S.arg hb) 3 i 0 (aa (el b i).tag)) (.cons (b6 (S.arg hb) k Tryz.underlying29) (.cons (cz (S.arg hb) 3 k 0 (aa (el b k).tag)) (.cons (b6 (S.arg hb) i Tryz.underlying29) (.cons (cz (S.arg hb) 3 i 1 (aa (el b i).page)) (.cons (b6 (S.arg hb) k Tryz.underlying29) (.cons (cz (S.arg hb) 3 k 1 (aa (el b k).page)) .nil)))))))) rfl (by kernel_rfl) (by kernel_rfl) (.cons et .nil) fun ac w S=>?_
    refine S.ex fun S=>?_
    refine S.aI 1 .nil ((el b i).page==(el b k).page) (fun ac w β eL h8 S=>?_) (fun ac w β eL h8 S=>?_)
    ·exact S.aq 7 .nil [B false] (a6 Ts)
    refine S.ge 9 (.cons (cg (k:Int) 1) .nil) f5 fun ac w β S=>Sj.of (i-(k+1)) _ _ (by omega) ⟨k+1,_,_,_,rfl,?_,?_,S.z⟩
    ·exact cO
    ·clear S;(refine ru kC ?_;simp_all)
   ·have hA:¬((el b i).tag=(el b k).tag):=ne_of_beq_false et
    refine S.oa [(11,false)] (keep:=[0,3,4,39]) (m:=0) (σ':=⟨[(0,.v (R b.length bB.1)),(3,.v (aa (i:Int))),(4,.v (aa (k:Int))),(39,.v (B false))],[]⟩) (.cons (b6 (S.arg hb) i Tryz.underlying29) (.cons (cz (S.arg hb) 3 i 0 (aa (el b i).tag)) (.cons (b6 (S.arg hb) k Tryz.underlying29) (.cons (cz (S.arg hb) 3 k 0 (aa (el b k).tag)) .nil)))) rfl (by kernel_rfl) (by kernel_rfl) (.cons et .nil) fun ac w S=>?_
    refine S.ex fun S=>?_
    refine S.ge 10 (.cons (cg (k:Int) 1) .nil) f5 fun ac w β S=>Sj.of (i-(k+1)) _ _ (by omega) ⟨k+1,_,_,_,rfl,?_,?_,S.z⟩
    ·exact cO
    ·clear S;(refine ru kC ?_;simp_all)
  refine S.ge 12 (.cons (cg (i:Int) 1) .nil) f1 fun ac w β S=>fa.of (b.length-(i+1)) _ _ (by omega) ⟨i+1,_,_,_,rfl,?_,?_,S.z⟩
  ·exact cO
  ·clear S;(refine ru he ?_);(have e:k=i:=(by omega));rw [e] at kC;exact kC
 exact S.aq 15 .nil [B (decide ((b.length:Int)<=6))] (a6 Ts)
theorem nz (w0:World):Calls Tryz.prog 263 [].toArray w0 (fun e w'=>e= .returned (GT.val (⟨-1,0⟩:aQ) ())/\bu ab w0 w'):=by
 refine Calls.run ab Tryz.func263 ?_
 intro ac β S
 exact S.aq 12 (.cons (fT (s:=Instr.build 111 [(0,aa (-1))].toArray) (v:= .agg [aa (-1),aa 0].toArray) (fun w=>by kernel_rfl)) .nil) [GT.val (⟨(-1),0⟩:aQ) ()] (hU (p:=()) (by clear S;first|rfl|(simp [id, *];done)|(simp [id, *];omega)|(simp_all [id];done)|(simp_all [id];omega)))
theorem EA {p:Prop} (h:p:=by clear S;first|rfl|(simp [g5, *];done)|(simp [g5, *];omega)|(simp_all [g5];done)|(simp_all [g5];omega)):p:=h
theorem ZK (w0:World) (s:aQ) (eh:Int) (ft:0<=eh) (gP:eh<=1000):Calls Tryz.prog 270 [GT.val s (),aa eh].toArray w0 (fun e w'=>e= .returned (B (g5 s eh))/\bu ab w0 w'):=by
 refine Calls.run ab Tryz.func270 ?_
 intro ac β S
 refine S.go 7 .nil fun ac w β S=>?_
 refine dI ?_
 rcases Bool.eq_false_or_eq_true (decide (s=(⟨-1,0⟩:aQ))) with h1|h1
 ·refine S.oa [(3,true)] (keep:=[4]) (m:=0) (σ':=⟨[(4,.v (B true))],[]⟩) (.cons (aE fun w hw=>nz w) (.cons (qv (t:=111) s (⟨-1,0⟩:aQ) (by kernel_rfl)) .nil)) rfl (by kernel_rfl) (by kernel_rfl) (.cons h1 .nil) fun ac w S=>?_
  refine S.ex fun S=>?_
  exact S.aq 2 .nil [B true] (a6 EA)
 ·rcases Bool.eq_false_or_eq_true (a3 s.page 0 (eh-1)) with an|an
  ·have b4:=cU an
   rcases Bool.eq_false_or_eq_true (decide (eh>0)) with b2|b2
   ·have dK:=of_decide_eq_true b2
    refine S.oa [(3,false),(9,true),(13,true)] (keep:=[4]) (m:=0) (σ':=⟨[(4,.v (B (a3 s.bd 1 3)))],[]⟩) (.cons (aE fun w hw=>nz w) (.cons (qv (t:=111) s (⟨-1,0⟩:aQ) (by kernel_rfl)) (.cons (g8 eh 1) (.cons (aE fun w hw=>fw w s.page 0 (eh-1)) (.cons (aE fun w hw=>fw w s.bd 1 3) .nil))))) rfl (by kernel_rfl) (by kernel_rfl) (.cons h1 (.cons an (.cons b2 .nil))) fun ac w S=>?_
    refine S.ex fun S=>?_
    exact S.aq 2 .nil [B (a3 s.bd 1 3)] (a6 EA)
   ·have c7:=of_decide_eq_false b2
    refine S.oa [(3,false),(9,true),(13,false)] (keep:=[4]) (m:=0) (σ':=⟨[(4,.v (B false))],[]⟩) (.cons (aE fun w hw=>nz w) (.cons (qv (t:=111) s (⟨-1,0⟩:aQ) (by kernel_rfl)) (.cons (g8 eh 1) (.cons (aE fun w hw=>fw w s.page 0 (eh-1)) .nil)))) rfl (by kernel_rfl) (by kernel_rfl) (.cons h1 (.cons an (.cons b2 .nil))) fun ac w S=>?_
    refine S.ex fun S=>?_
    exact S.aq 2 .nil [B false] (a6 EA)
  ·have gC:=dm an
   refine S.oa [(3,false),(9,false)] (keep:=[4]) (m:=0) (σ':=⟨[(4,.v (B false))],[]⟩) (.cons (aE fun w hw=>nz w) (.cons (qv (t:=111) s (⟨-1,0⟩:aQ) (by kernel_rfl)) (.cons (g8 eh 1) (.cons (aE fun w hw=>fw w s.page 0 (eh-1)) .nil)))) rfl (by kernel_rfl) (by kernel_rfl) (.cons h1 (.cons an .nil)) fun ac w S=>?_
   refine S.ex fun S=>?_
   exact S.aq 2 .nil [B false] (a6 EA)
theorem Hj (w0:World) (t:List aQ) (bg:aC aQ) (bs:bT w0 t bg) (size:Int) (eh:Int) (ft:0<=eh) (gP:eh<=1000):Calls Tryz.prog 302 [R t.length bg.1,aa size,aa eh].toArray w0 (fun e w'=>e= .returned (B (gV t size eh))/\bu ab w0 w'):=by
 refine Calls.run ab Tryz.func302 ?_
 intro ac β S
 have AU:t.length<=4194304:=af.le bs
 refine S.go 12 .nil fun ac w β S=>?_
 refine dc (fun a5 ac w=>∃(k:Nat) (u:_) (N:_) (β:_),a5=t.length-k/\(k<=t.length)/\((t.take k).all (fun s=>g5 s eh)=true)/\aj Tryz.prog Tryz.f302.ntmps w0 ab u N β ⟨[(0,.v (R t.length bg.1)),(1,.v (aa size)),(2,.v (aa eh)),(7,.v (aa (k:Int)))],[]⟩ ac w) _ ⟨0,_,_,_,rfl,cv,(by simp),S.z⟩ ?_
 clear S
 rintro f1 a5 fa ac w ⟨k,u,N,β,rfl,hk,he,S⟩
 refine S.rs fun S=>?_
 refine S.aI 9 .nil (decide ((k:Int)<(t.length:Int))) (fun ac w β aF cB S=>?_) (fun ac w β aF cB S=>?_)
 ·refine S.bb 16 (.cons (b6 (S.arg bs) k Tryz.underlying64) (.cons (dy (S.arg bs) 111 k) (.cons (aE fun w hw=>ZK w (el t k) eh (by omega) (by omega)) .nil))) (!(g5 (el t k) eh)) (fun ac w β bl S=>?_) (fun ac w β bl S=>?_)
  ·have cR:=cn bl
   exact S.aq 7 .nil [B false] (a6 (by clear S;(first|(unfold gV;rw [l9 (k:=k) (by omega) (by first|assumption|simp_all)];simp;done)|(unfold gV;rw [eR (by omega) he];simp;done)|(unfold gV;rw [eR (by omega) he];simp [*];done)|(unfold gV;rw [eR (by omega) he];simp;omega))))
  have cD:=b_ bl
  refine S.ge 9 (.cons (cg (k:Int) 1) .nil) f1 fun ac w β S=>fa.of (t.length-(k+1)) _ _ (by omega) ⟨k+1,_,_,_,rfl,?_,?_,S.z⟩
  ·exact cO
  ·clear S;exact pP (by omega) he (by first|assumption|(simp only [g5,a3] at*;simp_all;done)|(simp_all;done)|(simp_all;omega))
 exact S.aq 16 .nil [B ((t.length:Int)==size)] (a6 (by clear S;(first|(unfold gV;rw [eR (by omega) he];simp;done)|(unfold gV;rw [eR (by omega) he];simp [*];done)|(unfold gV;rw [eR (by omega) he];simp;omega)|(unfold gV;rw [l9 (k:=k) (by omega) (by first|assumption|simp_all)];simp;done))))
theorem sf {p:Prop} (h:p:=by clear S;first|rfl|(simp [mT, *];done)|(simp [mT, *];omega)|(simp_all [mT];done)|(simp_all [mT];omega)):p:=h
theorem ZA (w0:World) (i:c_):Calls Tryz.prog 347 [GT.val i ()].toArray w0 (fun e w'=>e= .returned (B (mT i))/\bu ab w0 w'):=by
 refine Calls.run ab Tryz.func347 ?_
 intro ac β S
 refine S.aI 21 .nil (i.eF==1) (fun ac w β h1 a8 S=>?_) (fun ac w β h1 a8 S=>?_)
 ·exact S.aq 13 (.cons (aE fun w hw=>fw w i.x 0 99) .nil) [B (a3 i.x 0 99)] (a6 sf)
 refine S.aI 7 .nil (i.eF==2) (fun ac w β aF cB S=>?_) (fun ac w β aF cB S=>?_)
 ·exact S.aq 13 (.cons (aE fun w hw=>fw w i.x 0 99) .nil) [B (a3 i.x 0 99)] (a6 sf)
 refine S.aI 7 .nil (i.eF==5) (fun ac w β bl c7 S=>?_) (fun ac w β bl c7 S=>?_)
 ·exact S.aq 13 (.cons (aE fun w hw=>fw w i.x 0 99) .nil) [B (a3 i.x 0 99)] (a6 sf)
 refine S.aI 6 .nil (i.eF==6) (fun ac w β cD e_ S=>?_) (fun ac w β cD e_ S=>?_)
 ·exact S.aq 10 (.cons (aE fun w hw=>fw w i.x 0 99) .nil) [B (a3 i.x 0 99)] (a6 sf)
 refine S.aI 8 .nil (i.eF==3) (fun ac w β et iP S=>?_) (fun ac w β et iP S=>?_)
 ·exact S.aq 13 (.cons (aE fun w hw=>fw w i.x 0 15) .nil) [B (a3 i.x 0 15)] (a6 sf)
 refine S.aI 6 .nil (i.eF==4) (fun ac w β eL h8 S=>?_) (fun ac w β eL h8 S=>?_)
 ·exact S.aq 10 (.cons (aE fun w hw=>fw w i.x 0 15) .nil) [B (a3 i.x 0 15)] (a6 sf)
 refine S.aI 7 .nil (i.eF==7) (fun ac w β jD nK S=>?_) (fun ac w β jD nK S=>?_)
 ·exact S.aq 10 .nil [B (i.x==0)] (a6 sf)
 refine S.aI 7 .nil (i.eF==8) (fun ac w β oj pb S=>?_) (fun ac w β oj pb S=>?_)
 ·exact S.aq 10 (.cons (aE fun w hw=>fw w i.x 0 11) .nil) [B (a3 i.x 0 11)] (a6 sf)
 exact S.aq 10 .nil [B false] (a6 sf)
theorem ZJ (w0:World) (p:List c_) (pp:aC c_) (bD:bT w0 p pp):Calls Tryz.prog 333 [R p.length pp.1].toArray w0 (fun e w'=>e= .returned (B (j7 p))/\bu ab w0 w'):=by
 refine Calls.run ab Tryz.func333 ?_
 intro ac β S
 have JF:p.length<=4194304:=af.le bD
 refine S.go 12 .nil fun ac w β S=>?_
 refine dc (fun a5 ac w=>∃(k:Nat) (u:_) (N:_) (β:_),a5=p.length-k/\(k<=p.length)/\((p.take k).all mT=true)/\aj Tryz.prog Tryz.f333.ntmps w0 ab u N β ⟨[(0,.v (R p.length pp.1)),(3,.v (aa (k:Int)))],[]⟩ ac w) _ ⟨0,_,_,_,rfl,cv,(by simp),S.z⟩ ?_
 clear S
 rintro f1 a5 fa ac w ⟨k,u,N,β,rfl,hk,he,S⟩
 refine S.rs fun S=>?_
 refine S.aI 9 .nil (decide ((k:Int)<(p.length:Int))) (fun ac w β aF cB S=>?_) (fun ac w β aF cB S=>?_)
 ·refine S.bb 15 (.cons (b6 (S.arg bD) k Tryz.underlying63) (.cons (dy (S.arg bD) 128 k) (.cons (aE fun w hw=>ZA w (el p k)) .nil))) (!(mT (el p k))) (fun ac w β bl S=>?_) (fun ac w β bl S=>?_)
  ·have cR:=cn bl
   exact S.aq 7 .nil [B false] (a6 (by clear S;(first|(unfold j7;rw [l9 (k:=k) (by omega) (by first|assumption|simp_all)];simp;done)|(unfold j7;rw [eR (by omega) he];simp;done)|(unfold j7;rw [eR (by omega) he];simp [*];done)|(unfold j7;rw [eR (by omega) he];simp;omega))))
  have cD:=b_ bl
  refine S.ge 9 (.cons (cg (k:Int) 1) .nil) f1 fun ac w β S=>fa.of (p.length-(k+1)) _ _ (by omega) ⟨k+1,_,_,_,rfl,?_,?_,S.z⟩
  ·exact cO
  ·clear S;exact pP (by omega) he (by first|assumption|(simp only [g5,a3] at*;simp_all;done)|(simp_all;done)|(simp_all;omega))
 exact S.aq 15 (.cons (aE fun w hw=>fw w (p.length:Int) 1 12) .nil) [B (a3 (p.length:Int) 1 12)] (a6 (by clear S;(first|(unfold j7;rw [eR (by omega) he];simp;done)|(unfold j7;rw [eR (by omega) he];simp [*];done)|(unfold j7;rw [eR (by omega) he];simp;omega)|(unfold j7;rw [l9 (k:=k) (by omega) (by first|assumption|simp_all)];simp;done))))
theorem Zq (w0:World) (c:fo):Calls Tryz.prog 325 [GT.val c ()].toArray w0 (dw ab w0 (mR c:List Int)):=by
 refine Calls.run ab Tryz.func325 ?_
 intro ac β S
 refine S.go 8 .nil fun ac w β S=>S.gR (α:=Int) (d:=4) fun ac w N ae br S up aD d4=>?_
 clear up d4
 refine S.go 12 (.cons (aE fun w hw=>fw w c.aX 0 3) .nil) fun ac w β S=>?_
 refine il S (fun ac w=>∃(lG:List Int) (bL:_) (cW:_) (u:_) (N:_) (β:_),(lG=(if a3 c.aX 0 3 then [] else [1]))/\aj Tryz.prog Tryz.f325.ntmps w0 ab u N β ⟨[(1,.p 0 0),(3,.v (R lG.length bL.1))],[GT.cells c ()]⟩ ac w/\ad w0 ab u N cW lG bL) ?_ ?_
 ·clear S;intro S
  refine S.bb 0 .nil (!(a3 c.aX 0 3)) (fun ac w β db S=>?_) (fun ac w β db S=>?_)
  ·have et:=cn db
   have iP:=dm et
   refine S.go 3 .nil fun ac w β S=>S.iL (α:=Int) (x:=1) (p:=()) (F:=ab) (show a_ 1 from⟨by decide,by decide⟩) (fun b h=>False.elim h) (fun b h=>False.elim h) (d:=10) fun ac w N yK CG S up ju d14=>?_
   replace aD:=aD.up up
   clear up d14
   refine S.lC (α:=Int) aD ju.ak (fun _ _ h=>h) (by':=8) (d:=11) (lx:=0) (ly:=1) rfl fun ac w N cG cC S up eU d19=>?_
   clear up d19
   exact S.dF 2 .nil fun ac w β S=>⟨rfl,([1]),cG,cC,_,_,_,(by clear S;(first|(rw [if_pos (by assumption)];simp [*];done)|(rw [if_neg (by simp [*])];simp [*];done)|((repeat' split)<;>first|rfl|(simp;done)|(exfalso;simp_all;done)|(simp_all;done)))),S.z,eU⟩
  have lj:=b_ db
  have uT:=cU lj
  exact S.dF 2 .nil fun ac w β S=>⟨rfl,([]:List Int),ae,br,_,_,_,(by clear S;(first|(rw [if_pos (by assumption)];simp [*];done)|(rw [if_neg (by simp [*])];simp [*];done)|((repeat' split)<;>first|rfl|(simp;done)|(exfalso;simp_all;done)|(simp_all;done)))),S.z,aD⟩
 clear S aD
 rintro ac w ⟨lG,bL,cW,u,N,β,va,S,ao⟩
 have aej:lG.length<=1:=by rw [va];(repeat' split)<;>simp
 refine S.ex fun S=>?_
 refine S.go 10 (.cons (aE fun w hw=>fw w c.post 0 255) .nil) fun ac w β S=>?_
 refine il S (fun ac w=>∃(kW:List Int) (e2:_) (mE:_) (u:_) (N:_) (β:_),(kW=(if a3 c.aX 0 3 then [] else [1])++(if a3 c.post 0 255 then [] else [2]))/\aj Tryz.prog Tryz.f325.ntmps w0 ab u N β ⟨[(1,.p 0 0),(3,.v (R kW.length e2.1))],[GT.cells c ()]⟩ ac w/\ad w0 ab u N mE kW e2) ?_ ?_
 ·clear S;intro S
  refine S.bb 0 .nil (!(a3 c.post 0 255)) (fun ac w β gN S=>?_) (fun ac w β gN S=>?_)
  ·have lP:=cn gN
   have z8:=dm lP
   refine S.go 3 .nil fun ac w β S=>S.iL (α:=Int) (x:=2) (p:=()) (F:=ab) (show a_ 2 from⟨by decide,by decide⟩) (fun b h=>False.elim h) (fun b h=>False.elim h) (d:=17) fun ac w N tM Ww S up lY d32=>?_
   replace ao:=ao.up up
   clear up d32
   refine S.k7 (α:=Int) ao lY.ak (fun _ _ h=>h) (by':=8) (d:=18) (lx:=lG.length) (ly:=1) rfl rfl (show _<=4194304 by simp only [List.length_append,List.length_cons,List.length_nil];omega) fun ac w N l7 n2 S up gY d37=>?_
   clear up d37
   exact S.dF 2 .nil fun ac w β S=>⟨rfl,(lG++[2]),l7,n2,_,_,_,(by clear S;(first|(rw [if_pos (by assumption)];simp [*];done)|(rw [if_neg (by simp [*])];simp [*];done)|(rw [va];(repeat' split)<;>first|rfl|(simp;done)|(exfalso;simp_all;done)|(simp_all;done)))),S.z,gY⟩
  have qR:=b_ gN
  have DJ:=cU qR
  exact S.dF 2 .nil fun ac w β S=>⟨rfl,lG,bL,cW,_,_,_,(by clear S;(first|(rw [if_pos (by assumption)];simp [*];done)|(rw [if_neg (by simp [*])];simp [*];done)|(rw [va];(repeat' split)<;>first|rfl|(simp;done)|(exfalso;simp_all;done)|(simp_all;done)))),S.z,ao⟩
 clear S ao
 rintro ac w ⟨kW,e2,mE,u,N,β,r0,S,dC⟩
 have AS:kW.length<=2:=by rw [r0];(repeat' split)<;>simp
 refine S.ex fun S=>?_
 refine S.aI 8 .nil (c.post != 0) (fun ac w β pg z_ S=>?_) (fun ac w β pg z_ S=>?_)
 ·refine S.go 6 .nil fun ac w β S=>?_
  refine il S (fun ac w=>∃(gT:List Int) (k4:_) (lE:_) (u:_) (N:_) (β:_),(gT=(if a3 c.aX 0 3 then [] else [1])++(if a3 c.post 0 255 then [] else [2])++(if c.post≠0/\c.eV=false then [3] else []))/\aj Tryz.prog Tryz.f325.ntmps w0 ab u N β ⟨[(1,.p 0 0),(3,.v (R gT.length k4.1))],[GT.cells c ()]⟩ ac w/\ad w0 ab u N lE gT k4) ?_ ?_
  ·clear S;intro S
   refine S.bb 0 .nil (!c.eV) (fun ac w β om S=>?_) (fun ac w β om S=>?_)
   ·have rX:=cn om
    refine S.go 3 .nil fun ac w β S=>S.iL (α:=Int) (x:=3) (p:=()) (F:=ab) (show a_ 3 from⟨by decide,by decide⟩) (fun b h=>False.elim h) (fun b h=>False.elim h) (d:=28) fun ac w N Vm N6 S up BB d51=>?_
    replace dC:=dC.up up
    clear up d51
    refine S.k7 (α:=Int) dC BB.ak (fun _ _ h=>h) (by':=8) (d:=29) (lx:=kW.length) (ly:=1) rfl rfl (show _<=4194304 by simp only [List.length_append,List.length_cons,List.length_nil];omega) fun ac w N BW zh S up yG d56=>?_
    clear up d56
    exact S.dF 2 .nil fun ac w β S=>⟨rfl,(kW++[3]),BW,zh,_,_,_,(by clear S;(first|(rw [if_pos (by assumption)];simp [*];done)|(rw [if_neg (by simp [*])];simp [*];done)|(rw [r0];(repeat' split)<;>first|rfl|(simp;done)|(exfalso;simp_all;done)|(simp_all;done)))),S.z,yG⟩
   have acZ:=b_ om
   exact S.dF 2 .nil fun ac w β S=>⟨rfl,kW,e2,mE,_,_,_,(by clear S;(first|(rw [if_pos (by assumption)];simp [*];done)|(rw [if_neg (by simp [*])];simp [*];done)|(rw [r0];(repeat' split)<;>first|rfl|(simp;done)|(exfalso;simp_all;done)|(simp_all;done)))),S.z,dC⟩
  clear S dC
  rintro ac w ⟨gT,k4,lE,u,N,β,mY,S,ey⟩
  have Jv:gT.length<=3:=by rw [mY];(repeat' split)<;>simp
  refine S.ex fun S=>?_
  refine S.aI 8 .nil (c.aX==2) (fun ac w β uY It S=>?_) (fun ac w β uY It S=>?_)
  ·refine S.go 6 .nil fun ac w β S=>?_
   refine il S (fun ac w=>∃(ef:List Int) (nq:_) (lF:_) (u:_) (N:_) (β:_),(ef=(if a3 c.aX 0 3 then [] else [1])++(if a3 c.post 0 255 then [] else [2])++(if c.post≠0/\c.eV=false then [3] else [])++(if c.aX=2/\c.post≠0 then [4] else []))/\aj Tryz.prog Tryz.f325.ntmps w0 ab u N β ⟨[(3,.v (R ef.length nq.1))],[]⟩ ac w/\ad w0 ab u N lF ef nq) ?_ ?_
   ·clear S;intro S
    refine S.lt 37 pg fun S=>?_
    refine S.go 3 .nil fun ac w β S=>S.iL (α:=Int) (x:=4) (p:=()) (F:=ab) (show a_ 4 from⟨by decide,by decide⟩) (fun b h=>False.elim h) (fun b h=>False.elim h) (d:=39) fun ac w N BZ sM S up g7 d67=>?_
    replace ey:=ey.up up
    clear up d67
    refine S.k7 (α:=Int) ey g7.ak (fun _ _ h=>h) (by':=8) (d:=40) (lx:=gT.length) (ly:=1) rfl rfl (show _<=4194304 by simp only [List.length_append,List.length_cons,List.length_nil];omega) fun ac w N nY oS S up pz d72=>?_
    clear up d72
    exact S.dF 2 .nil fun ac w β S=>⟨rfl,(gT++[4]),nY,oS,_,_,_,(by clear S;(first|(rw [if_pos (by assumption)];simp [*];done)|(rw [if_neg (by simp [*])];simp [*];done)|(rw [mY];(repeat' split)<;>first|rfl|(simp;done)|(exfalso;simp_all;done)|(simp_all;done)))),S.z,pz⟩
   clear S ey
   rintro ac w ⟨ef,nq,lF,u,N,β,jF,S,iS⟩
   have vH:ef.length<=4:=by rw [jF];(repeat' split)<;>simp
   refine S.ex fun S=>?_
   refine S.bq 8 .nil [R ef.length nq.1] fun ac w β S=>?_
   exact cx S (show mR c=ef by clear S;(rw [jF];rfl)) rfl iS
  refine S.go 6 .nil fun ac w β S=>?_
  refine il S (fun ac w=>∃(ef:List Int) (rj:_) (w1:_) (u:_) (N:_) (β:_),(ef=(if a3 c.aX 0 3 then [] else [1])++(if a3 c.post 0 255 then [] else [2])++(if c.post≠0/\c.eV=false then [3] else [])++(if c.aX=2/\c.post≠0 then [4] else []))/\aj Tryz.prog Tryz.f325.ntmps w0 ab u N β ⟨[(3,.v (R ef.length rj.1))],[]⟩ ac w/\ad w0 ab u N w1 ef rj) ?_ ?_
  ·clear S;intro S
   exact S.dF 2 .nil fun ac w β S=>⟨rfl,gT,k4,lE,_,_,_,(by clear S;(first|(rw [if_pos (by assumption)];simp [*];done)|(rw [if_neg (by simp [*])];simp [*];done)|(rw [mY];(repeat' split)<;>first|rfl|(simp;done)|(exfalso;simp_all;done)|(simp_all;done)))),S.z,ey⟩
  clear S ey
  rintro ac w ⟨ef,rj,w1,u,N,β,jF,S,wg⟩
  have vH:ef.length<=4:=by rw [jF];(repeat' split)<;>simp
  refine S.ex fun S=>?_
  refine S.bq 8 .nil [R ef.length rj.1] fun ac w β S=>?_
  exact cx S (show mR c=ef by clear S;(rw [jF];rfl)) rfl wg
 refine S.go 6 .nil fun ac w β S=>?_
 refine il S (fun ac w=>∃(gT:List Int) (qp:_) (rz:_) (u:_) (N:_) (β:_),(gT=(if a3 c.aX 0 3 then [] else [1])++(if a3 c.post 0 255 then [] else [2])++(if c.post≠0/\c.eV=false then [3] else []))/\aj Tryz.prog Tryz.f325.ntmps w0 ab u N β ⟨[(1,.p 0 0),(3,.v (R gT.length qp.1))],[GT.cells c ()]⟩ ac w/\ad w0 ab u N rz gT qp) ?_ ?_
 ·clear S;intro S
  exact S.dF 2 .nil fun ac w β S=>⟨rfl,kW,e2,mE,_,_,_,(by clear S;(first|(rw [if_pos (by assumption)];simp [*];done)|(rw [if_neg (by simp [*])];simp [*];done)|(rw [r0];(repeat' split)<;>first|rfl|(simp;done)|(exfalso;simp_all;done)|(simp_all;done)))),S.z,dC⟩
 clear S dC
 rintro ac w ⟨gT,qp,rz,u,N,β,mY,S,sq⟩
 have Jv:gT.length<=3:=by rw [mY];(repeat' split)<;>simp
 refine S.ex fun S=>?_
 refine S.aI 8 .nil (c.aX==2) (fun ac w β Ak Ab S=>?_) (fun ac w β Ak Ab S=>?_)
 ·refine S.go 6 .nil fun ac w β S=>?_
  refine il S (fun ac w=>∃(ef:List Int) (pD:_) (um:_) (u:_) (N:_) (β:_),(ef=(if a3 c.aX 0 3 then [] else [1])++(if a3 c.post 0 255 then [] else [2])++(if c.post≠0/\c.eV=false then [3] else [])++(if c.aX=2/\c.post≠0 then [4] else []))/\aj Tryz.prog Tryz.f325.ntmps w0 ab u N β ⟨[(3,.v (R ef.length pD.1))],[]⟩ ac w/\ad w0 ab u N um ef pD) ?_ ?_
  ·clear S;intro S
   refine S.lt 37 pg fun S=>?_
   exact S.dF 2 .nil fun ac w β S=>⟨rfl,gT,qp,rz,_,_,_,(by clear S;(first|(rw [if_pos (by assumption)];simp [*];done)|(rw [if_neg (by simp [*])];simp [*];done)|(rw [mY];(repeat' split)<;>first|rfl|(simp;done)|(exfalso;simp_all;done)|(simp_all;done)))),S.z,sq⟩
  clear S sq
  rintro ac w ⟨ef,pD,um,u,N,β,jF,S,ev⟩
  have vH:ef.length<=4:=by rw [jF];(repeat' split)<;>simp
  refine S.ex fun S=>?_
  refine S.bq 8 .nil [R ef.length pD.1] fun ac w β S=>?_
  exact cx S (show mR c=ef by clear S;(rw [jF];rfl)) rfl ev
 refine S.go 6 .nil fun ac w β S=>?_
 refine il S (fun ac w=>∃(ef:List Int) (dL:_) (dU:_) (u:_) (N:_) (β:_),(ef=(if a3 c.aX 0 3 then [] else [1])++(if a3 c.post 0 255 then [] else [2])++(if c.post≠0/\c.eV=false then [3] else [])++(if c.aX=2/\c.post≠0 then [4] else []))/\aj Tryz.prog Tryz.f325.ntmps w0 ab u N β ⟨[(3,.v (R ef.length dL.1))],[]⟩ ac w/\ad w0 ab u N dU ef dL) ?_ ?_
 ·clear S;intro S
  exact S.dF 2 .nil fun ac w β S=>⟨rfl,gT,qp,rz,_,_,_,(by clear S;(first|(rw [if_pos (by assumption)];simp [*];done)|(rw [if_neg (by simp [*])];simp [*];done)|(rw [mY];(repeat' split)<;>first|rfl|(simp;done)|(exfalso;simp_all;done)|(simp_all;done)))),S.z,sq⟩
 clear S sq
 rintro ac w ⟨ef,dL,dU,u,N,β,jF,S,hT⟩
 have vH:ef.length<=4:=by rw [jF];(repeat' split)<;>simp
 refine S.ex fun S=>?_
 refine S.bq 8 .nil [R ef.length dL.1] fun ac w β S=>?_
 exact cx S (show mR c=ef by clear S;(rw [jF];rfl)) rfl hT
theorem Zr (w0:World) (c:fo):Calls Tryz.prog 276 [GT.val c ()].toArray w0 (fun e w'=>e= .returned (B (mS c))/\bu ab w0 w'):=by
 refine Calls.run ab Tryz.func276 ?_
 intro ac β S
 refine S.go 9 .nil fun ac w β S=>S.cN (r:=mR c) (d:=4) (Zq w c) fun ac w N ae br S up aD d4=>?_
 clear up d4
 exact S.aq 6 .nil [B (((mR c).length:Int)==0)] (a6 (by clear S;first|rfl|(simp [mS, *];done)|(simp [mS, *];omega)|(simp_all [mS];done)|(simp_all [mS];omega)))
theorem Hi (w0:World) (p:Int):Calls Tryz.prog 304 [aa p].toArray w0 (fun e w'=>e= .returned (B (a3 p 0 255))/\bu ab w0 w'):=by
 refine Calls.run ab Tryz.func304 ?_
 intro ac β S
 exact S.aq 13 (.cons (aE fun w hw=>fw w p 0 255) .nil) [B (a3 p 0 255)] (a6 (by clear S;first|rfl|(simp [a3, *];done)|(simp [a3, *];omega)|(simp_all [a3];done)|(simp_all [a3];omega)))
theorem qg {p:Prop} (h:p:=by clear S;(unfold uP;(repeat' split)<;>first|rfl|(exfalso;simp_all;done)|(exfalso;omega)|(rw [Bool.eq_iff_iff];simp [df.ext_iff, *];done)|(rw [Bool.eq_iff_iff];simp_all [df.ext_iff,and_assoc];done)|(rw [Bool.eq_iff_iff];simp_all [df.ext_iff,and_assoc];omega))):p:=h
theorem Zs (w0:World) (x:df):Calls Tryz.prog 334 [GT.val x ()].toArray w0 (fun e w'=>e= .returned (B (uP x))/\bu ab w0 w'):=by
 refine Calls.run ab Tryz.func334 ?_
 intro ac β S
 refine S.aI 21 .nil (x.kind==0) (fun ac w β h1 a8 S=>?_) (fun ac w β h1 a8 S=>?_)
 ·exact S.aq 15 (.cons (fT (s:=Instr.build 68 [(0,aa x.kind)].toArray) (v:= .agg [aa x.kind,aa 0,B false,aa 0].toArray) (fun w=>by kernel_rfl)) (.cons (CE (t:=68) x (⟨x.kind,0,false,0⟩:df) (by kernel_rfl)) .nil)) [B (decide (x=(⟨x.kind,0,false,0⟩:df)))] (a6 qg)
 refine S.aI 6 .nil (x.kind==4) (fun ac w β aF cB S=>?_) (fun ac w β aF cB S=>?_)
 ·exact S.aq 12 (.cons (fT (s:=Instr.build 68 [(0,aa x.kind)].toArray) (v:= .agg [aa x.kind,aa 0,B false,aa 0].toArray) (fun w=>by kernel_rfl)) (.cons (CE (t:=68) x (⟨x.kind,0,false,0⟩:df) (by kernel_rfl)) .nil)) [B (decide (x=(⟨x.kind,0,false,0⟩:df)))] (a6 qg)
 refine S.aI 7 .nil (x.kind==1) (fun ac w β bl c7 S=>?_) (fun ac w β bl c7 S=>?_)
 ·refine S.bb 7 (.cons (aE fun w hw=>fw w x.page 0 3) .nil) (a3 x.page 0 3) (fun ac w β cD S=>?_) (fun ac w β cD S=>?_)
  ·have e_:=cU cD
   exact S.aq 8 .nil [B (x.n==0)] (a6 qg)
  have fx:=dm cD
  exact S.aq 8 .nil [B false] (a6 qg)
 refine S.aI 8 .nil (x.kind==2) (fun ac w β c3 dY S=>?_) (fun ac w β c3 dY S=>?_)
 ·refine S.bb 10 (.cons (aE fun w hw=>fw w x.n 0 99) .nil) (a3 x.n 0 99) (fun ac w β dZ S=>?_) (fun ac w β dZ S=>?_)
  ·have hA:=cU dZ
   refine S.aI 5 .nil (x.page==0) (fun ac w β h9 lM S=>?_) (fun ac w β h9 lM S=>?_)
   ·exact S.aq 8 .nil [B (!x.wr)] (a6 qg)
   exact S.aq 8 .nil [B false] (a6 qg)
  have pb:=dm dZ
  exact S.aq 13 .nil [B false] (a6 qg)
 refine S.aI 6 .nil (x.kind==3) (fun ac w β jE pc S=>?_) (fun ac w β jE pc S=>?_)
 ·refine S.bb 7 (.cons (aE fun w hw=>fw w x.n 0 99) .nil) (a3 x.n 0 99) (fun ac w β iZ S=>?_) (fun ac w β iZ S=>?_)
  ·have p5:=cU iZ
   refine S.aI 5 .nil (x.page==0) (fun ac w β lj uT S=>?_) (fun ac w β lj uT S=>?_)
   ·exact S.aq 8 .nil [B (!x.wr)] (a6 qg)
   exact S.aq 8 .nil [B false] (a6 qg)
  have tc:=dm iZ
  exact S.aq 13 .nil [B false] (a6 qg)
 exact S.aq 10 .nil [B false] (a6 qg)
theorem se {p:Prop} (h:p:=by clear S;first|rfl|(simp [kz, *];done)|(simp [kz, *];omega)|(simp_all [kz];done)|(simp_all [kz];omega)):p:=h
theorem Zy (w0:World) (g:ax) (bc:c6) (aJ:bT w0 g bc):Calls Tryz.prog 303 [GT.val g bc].toArray w0 (fun e w'=>e= .returned (B (kz g))/\bu ab w0 w'):=by
 refine Calls.run ab Tryz.func303 ?_
 intro ac β S
 have iy:g.prog.length<=4194304:=af.le (az.prog (d:=g) aJ)
 have iA:g.written.length<=4194304:=af.le (az.written (d:=g) aJ)
 have ix:g.live.length<=4194304:=af.le (az.live (d:=g) aJ)
 have iz:g.seen.length<=4194304:=af.le (az.seen (d:=g) aJ)
 refine S.bb 12 (.cons (aE fun w hw=>ZJ w g.prog bc.prog (bN (az.prog (d:=g) (S.arg aJ)) hw)) .nil) (j7 g.prog) (fun ac w β h1 S=>?_) (fun ac w β h1 S=>?_)
 ·refine S.bb 5 (.cons (aE fun w hw=>fw w g.acc 0 99) .nil) (a3 g.acc 0 99) (fun ac w β an S=>?_) (fun ac w β an S=>?_)
  ·have b4:=cU an
   refine S.bb 5 (.cons (aE fun w hw=>fw w g.aw 0 12) .nil) (a3 g.aw 0 12) (fun ac w β b2 S=>?_) (fun ac w β b2 S=>?_)
   ·have dK:=cU b2
    refine S.bb 5 (.cons (aE fun w hw=>Hj w g.written bc.written (bN (az.written (d:=g) (S.arg aJ)) hw) 4 8 (by omega) (by omega)) .nil) (gV g.written 4 8) (fun ac w β cR S=>?_) (fun ac w β cR S=>?_)
    ·have gC:=wI cR
     refine S.bb 5 (.cons (aE fun w hw=>Hj w g.live bc.live (bN (az.live (d:=g) (S.arg aJ)) hw) 4 8 (by omega) (by omega)) .nil) (gV g.live 4 8) (fun ac w β db S=>?_) (fun ac w β db S=>?_)
     ·have fx:=wI db
      refine S.bb 5 (.cons (aE fun w hw=>Zr w g.aN) .nil) (mS g.aN) (fun ac w β c3 S=>?_) (fun ac w β c3 S=>?_)
      ·refine S.bb 5 (.cons (aE fun w hw=>Hi w g.aB) .nil) (a3 g.aB 0 255) (fun ac w β eL S=>?_) (fun ac w β eL S=>?_)
       ·have h8:=cU eL
        refine S.bb 5 (.cons (aE fun w hw=>Zs w g.exit) .nil) (uP g.exit) (fun ac w β jD S=>?_) (fun ac w β jD S=>?_)
        ·exact S.aq 9 .nil [B (decide ((g.seen.length:Int)<=40))] (a6 se)
        exact S.aq 9 .nil [B false] (a6 se)
       have nK:=dm eL
       exact S.aq 14 .nil [B false] (a6 se)
      exact S.aq 19 .nil [B false] (a6 se)
     exact S.aq 24 .nil [B false] (a6 se)
    exact S.aq 29 .nil [B false] (a6 se)
   have lM:=dm b2
   exact S.aq 34 .nil [B false] (a6 se)
  have pb:=dm an
  exact S.aq 39 .nil [B false] (a6 se)
 exact S.aq 44 .nil [B false] (a6 se)
theorem Dh (w0:World) (r:Int):Calls Tryz.prog 305 [aa r].toArray w0 (fun e w'=>e= .returned (B (a3 r 0 3))/\bu ab w0 w'):=by
 refine Calls.run ab Tryz.func305 ?_
 intro ac β S
 exact S.aq 13 (.cons (aE fun w hw=>fw w r 0 3) .nil) [B (a3 r 0 3)] (a6 (by clear S;first|rfl|(simp [a3, *];done)|(simp [a3, *];omega)|(simp_all [a3];done)|(simp_all [a3];omega)))
theorem Kz {p:Prop} (h:p:=by clear S;first|rfl|(simp [e8, *];done)|(simp [e8, *];omega)|(simp_all [e8];done)|(simp_all [e8];omega)):p:=h
theorem Dg (w0:World) (bd:Int) (need:Int):Calls Tryz.prog 225 [aa bd,aa need].toArray w0 (fun e w'=>e= .returned (B (e8 bd need))/\bu ab w0 w'):=by
 refine Calls.run ab Tryz.func225 ?_
 intro ac β S
 refine S.bb 10 (.cons (aE fun w hw=>Dh w bd) .nil) (a3 bd 0 3) (fun ac w β h1 S=>?_) (fun ac w β h1 S=>?_)
 ·have a8:=cU h1
  refine S.bb 4 (.cons (aE fun w hw=>Dh w need) .nil) (a3 need 0 3) (fun ac w β aF S=>?_) (fun ac w β aF S=>?_)
  ·have cB:=cU aF
   exact S.aq 10 (.cons (qC (x:=bd) (y:=need)) .nil) [B ((jH bd need)==need)] (a6 Kz)
  have dK:=dm aF
  exact S.aq 10 .nil [B false] (a6 Kz)
 have c7:=dm h1
 exact S.aq 14 .nil [B false] (a6 Kz)
theorem pr {p:Prop} (h:p:=by clear S;(symm;rw [←Bool.not_eq_true];intro hc;simp only [hP,og,qN,Bool.and_eq_true,decide_eq_true_eq,beq_iff_eq] at hc;first|omega|(simp_all;done)|(simp_all;omega)|(have hx:=sP (k:=k) hc.1.2 (by omega);simp_all;done)|(have hx:=FF (k:=j) hc.2 (by omega);unfold nH at hx;split at hx<;>first|(simp_all;done)|(simp_all;omega)))):p:=h
theorem ZE (w0:World) (m:aO) (pm:fj) (hm:bT w0 m pm):Calls Tryz.prog 221 [GT.val m pm].toArray w0 (fun e w'=>e= .returned (B (hP m))/\bu ab w0 w'):=by
 refine Calls.run ab Tryz.func221 ?_
 intro ac β S
 have JB:m.outer.length<=4194304:=af.le (aU.outer (d:=m) hm)
 have JA:m.out.length<=4194304:=af.le (aU.out (d:=m) hm)
 have Jy:m.aT.length<=4194304:=af.le (aU.aT (d:=m) hm)
 have Jz:m.U.length<=4194304:=af.le (aU.U (d:=m) hm)
 have JC:m.outs.length<=4194304:=af.le (aU.outs (d:=m) hm)
 have JD:m.tables.length<=4194304:=af.le (aU.tables (d:=m) hm)
 refine S.bb 15 (.cons (aE fun w hw=>fw w (m.U.length:Int) 1 2) .nil) (!(a3 (m.U.length:Int) 1 2)) (fun ac w β h1 S=>?_) (fun ac w β h1 S=>?_)
 ·have an:=cn h1
  have b4:=dm an
  exact S.aq 35 .nil [B false] (a6 pr)
 have b2:=b_ h1
 have dK:=cU b2
 refine S.aI 9 .nil ((m.tables.length:Int) != (m.U.length:Int)) (fun ac w β cR gC S=>?_) (fun ac w β cR gC S=>?_)
 ·exact S.aq 26 .nil [B false] (a6 pr)
 refine S.bb 6 (.cons (aE fun w hw=>Hj w m.outer pm.outer (bN (aU.outer (d:=m) (S.arg hm)) hw) 8 12 (by omega) (by omega)) .nil) (!(gV m.outer 8 12)) (fun ac w β db S=>?_) (fun ac w β db S=>?_)
 ·have et:=cn db
  exact S.aq 20 .nil [B false] (a6 pr)
 have c3:=b_ db
 have dY:=wI c3
 refine S.aI 6 .nil ((m.out.length:Int) != 8) (fun ac w β dZ hA S=>?_) (fun ac w β dZ hA S=>?_)
 ·exact S.aq 14 .nil [B false] (a6 pr)
 refine S.aI 7 .nil ((m.aT.length:Int) != 8) (fun ac w β h9 lM S=>?_) (fun ac w β h9 lM S=>?_)
 ·exact S.aq 7 .nil [B false] (a6 pr)
 refine S.go 10 .nil fun ac w β S=>?_
 refine dc (fun a5 ac w=>∃(k:Nat) (u:_) (N:_) (β:_),a5=m.U.length-k/\(k<=m.U.length)/\((m.U.take k).all kz=true)/\aj Tryz.prog Tryz.f221.ntmps w0 ab u N β ⟨[(1,.p 0 0),(3,.v (aa (k:Int)))],[GT.cells m pm]⟩ ac w) _ ⟨0,_,_,_,rfl,cv,(by simp),S.z⟩ ?_
 clear S
 rintro f16 a5 ad6 ac w ⟨k,u,N,β,rfl,hk,he,S⟩
 refine S.rs fun S=>?_
 refine S.aI 10 .nil (decide ((k:Int)<(m.U.length:Int))) (fun ac w β nM xO S=>?_) (fun ac w β nM xO S=>?_)
 ·refine S.bb 16 (.cons (b6 (aU.U (d:=m) (S.arg hm)) k Tryz.underlying71) (.cons (dy (aU.U (d:=m) (S.arg hm)) 70 k) (.cons (aE fun w hw=>Zy w (el m.U k) (pm.U.2 k) (bN (af.el (aU.U (d:=m) (S.arg hm)) k (by omega)) hw)) .nil))) (!(kz (el m.U k))) (fun ac w β hj S=>?_) (fun ac w β hj S=>?_)
  ·have lj:=cn hj
   exact S.aq 7 .nil [B false] (a6 pr)
  have pe:=b_ hj
  refine S.ge 9 (.cons (cg (k:Int) 1) .nil) f16 fun ac w β S=>ad6.of (m.U.length-(k+1)) _ _ (by omega) ⟨k+1,_,_,_,rfl,?_,?_,S.z⟩
  ·exact cO
  ·clear S;exact pP (by omega) he (by first|assumption|(simp only [g5,a3] at*;simp_all;done)|(simp_all;done)|(simp_all;omega))
 refine S.go 13 .nil fun ac w β S=>?_
 refine dc (fun a5 ac w=>∃(j:Nat) (u:_) (N:_) (β:_),a5=8-j/\(j<=8)/\((List.range j).all (nH m)=true)/\aj Tryz.prog Tryz.f221.ntmps w0 ab u N β ⟨[(1,.p 0 0),(4,.v (aa (j:Int)))],[GT.cells m pm]⟩ ac w) _ ⟨0,_,_,_,rfl,cv,(by rfl),S.z⟩ ?_
 clear S
 rintro f23 a5 Sg ac w ⟨j,u,N,β,rfl,b0,bD,S⟩
 refine S.rs fun S=>?_
 have yi:m.outer.length=8:=by omega
 have aez:m.out.length=8:=by omega
 refine S.aI 7 .nil (decide ((j:Int)<8)) (fun ac w β x4 p6 S=>?_) (fun ac w β x4 p6 S=>?_)
 ·refine S.bb 12 (.cons (b6 (aU.outer (d:=m) (S.arg hm)) j Tryz.underlying64) (.cons (dy (aU.outer (d:=m) (S.arg hm)) 111 j) (.cons (aE fun w hw=>nz w) (.cons (We (t:=111) (el m.outer j) (⟨-1,0⟩:aQ) (by kernel_rfl)) .nil)))) (!decide ((el m.outer j)=(⟨-1,0⟩:aQ))) (fun ac w β lP S=>?_) (fun ac w β lP S=>?_)
  ·refine S.lt 5 lP fun S=>?_
   have Xp:(el m.out j).length<=4194304:=af.le (af.el (aU.out (d:=m) (S.arg hm)) j (by omega))
   refine S.aI 8 (.cons (b6 (aU.out (d:=m) (S.arg hm)) j Tryz.underlying22) (.cons (cj (aU.out (d:=m) (S.arg hm)) 38 j) .nil)) (decide (((el m.out j).length:Int)>0)) (fun ac w β i_ nL S=>?_) (fun ac w β i_ nL S=>?_)
   ·exact S.aq 32 .nil [B false] (a6 pr)
   refine S.bb 11 (.cons (b6 (aU.outer (d:=m) (S.arg hm)) j Tryz.underlying64) (.cons (cz (aU.outer (d:=m) (S.arg hm)) 3 j 1 (aa (el m.outer j).bd)) (.cons (aE fun w hw=>Dg w (el m.outer j).bd 1) .nil))) (!(e8 (el m.outer j).bd 1)) (fun ac w β lQ S=>?_) (fun ac w β lQ S=>?_)
   ·have pf:=cn lQ
    exact S.aq 21 .nil [B false] (a6 pr)
   have mW:=b_ lQ
   have rV:=qJ mW
   refine S.ge 23 (.cons (cg (j:Int) 1) .nil) f23 fun ac w β S=>Sg.of (8-(j+1)) _ _ (by omega) ⟨j+1,_,_,_,rfl,?_,?_,S.z⟩
   ·exact cO
   ·clear S;(refine ru bD ?_;unfold nH;(repeat' split)<;>first|(exfalso;simp_all;done)|(simp_all;done)|(simp_all;omega))
  refine S.lt 5 lP fun S=>?_
  refine S.bb 33 (.cons (b6 (aU.out (d:=m) (S.arg hm)) j Tryz.underlying22) (.cons (cj (aU.out (d:=m) (S.arg hm)) 38 j) (.cons (aE fun w hw=>Hh w (el m.out j) (pm.out.2 j) (bN (af.el (aU.out (d:=m) (S.arg hm)) j (by omega)) hw)) .nil))) (!(hh (el m.out j))) (fun ac w β kA S=>?_) (fun ac w β kA S=>?_)
  ·have x5:=cn kA
   exact S.aq 7 .nil [B false] (a6 pr)
  have ja:=b_ kA
  refine S.ge 9 (.cons (cg (j:Int) 1) .nil) f23 fun ac w β S=>Sg.of (8-(j+1)) _ _ (by omega) ⟨j+1,_,_,_,rfl,?_,?_,S.z⟩
  ·exact cO
  ·clear S;(refine ru bD ?_;unfold nH;(repeat' split)<;>first|(exfalso;simp_all;done)|(simp_all;done)|(simp_all;omega))
 refine S.aI 13 .nil (decide ((m.outs.length:Int)<=40)) (fun ac w β qQ xR S=>?_) (fun ac w β qQ xR S=>?_)
 ·refine S.bb 5 (.cons (aE fun w hw=>Hi w m.aB) .nil) (a3 m.aB 0 255) (fun ac w β kZ S=>?_) (fun ac w β kZ S=>?_)
  ·have Ip:=cU kZ
   refine S.bb 5 (.cons (aE fun w hw=>fw w m.aX 0 3) .nil) (a3 m.aX 0 3) (fun ac w β j_ S=>?_) (fun ac w β j_ S=>?_)
   ·have xS:=cU j_
    exact S.aq 8 (.cons (aE fun w hw=>fw w m.owned 0 1000000000) .nil) [B (a3 m.owned 0 1000000000)] (a6 (by clear S;(first|rfl|(symm;rw [←Bool.not_eq_true];intro hc;simp only [hP,og,qN,Bool.and_eq_true,decide_eq_true_eq,beq_iff_eq] at hc;first|omega|(simp_all;done)|(simp_all;omega)|(have hx:=sP (k:=k) hc.1.2 (by omega);simp_all;done)|(have hx:=FF (k:=j) hc.2 (by omega);unfold nH at hx;split at hx<;>first|(simp_all;done)|(simp_all;omega)))|(symm;simp only [hP,og,qN,Bool.and_eq_true,decide_eq_true_eq,beq_iff_eq];(repeat' apply And.intro);all_goals first|assumption|omega|(simp_all;done)|(simp_all;omega)|(exact eR (by omega) he)|((have ky:j=8:=(by omega));subst ky;exact bD))|(rw [Bool.eq_iff_iff];simp only [hP,og,qN,Bool.and_eq_true,decide_eq_true_eq,beq_iff_eq];refine⟨fun bn=>?_,fun hc=>?_⟩<;>((repeat' apply And.intro);all_goals first|assumption|omega|(simp_all;done)|(simp_all;omega)|(exact eR (by omega) he)|((have ky:j=8:=(by omega));subst ky;exact bD))))))
   have Re:=dm j_
   exact S.aq 8 .nil [B false] (a6 pr)
  have anA:=dm kZ
  exact S.aq 13 .nil [B false] (a6 pr)
 exact S.aq 18 .nil [B false] (a6 pr)
theorem vS {p:Prop} (h:p:=by clear S;(first|(symm;rw [←Bool.not_eq_true];intro hc;simp only [eD,p2,Bool.and_eq_true] at hc;(first|(simp_all;done)|(simp_all;omega)))|(rw [D_ (xM (k:=i) (by omega) Cp hu (Nt (by assumption)))])|(rw [D_ (xM (k:=i) (by omega) Cp hu ((Cq vI).trans (xM (k:=k) (by omega) VL oA (Nu (by omega) (by assumption)))))])|(unfold eD s4 p2;rw [fb (by omega)] at hu;rw [hu];simp_all;done))):p:=h
theorem PT (w0:World) (h:ah) (ai:cb) (a1:bT w0 h ai):Calls Tryz.prog 102 [GT.val h ai].toArray w0 (fun e w'=>e= .returned (B (eD h))/\bu ab w0 w'):=by
 refine Calls.run ab Tryz.func102 ?_
 intro ac β S
 have m1:h.mem.length<=4194304:=af.le (bz.mem (d:=h) a1)
 have m2:h.I.length<=4194304:=af.le (bz.I (d:=h) a1)
 have mZ:h.buf.length<=4194304:=af.le (bz.buf (d:=h) a1)
 have m0:h.ag.length<=4194304:=af.le (bz.ag (d:=h) a1)
 refine S.bb 14 (.cons (aE fun w hw=>ZD w h.mem ai.mem (bN (bz.mem (d:=h) (S.arg a1)) hw) 12) .nil) (!(h6 h.mem 12)) (fun ac w β h1 S=>?_) (fun ac w β h1 S=>?_)
 ·have an:=cn h1
  exact S.aq 27 .nil [B false] (a6 vS)
 have aF:=b_ h1
 refine S.bb 7 (.cons (aE fun w hw=>fw w (h.I.length:Int) 1 3) .nil) (!(a3 (h.I.length:Int) 1 3)) (fun ac w β b2 S=>?_) (fun ac w β b2 S=>?_)
 ·have bl:=cn b2
  have c7:=dm bl
  exact S.aq 20 .nil [B false] (a6 vS)
 have cD:=b_ b2
 have e_:=cU cD
 refine S.bb 6 (.cons (aE fun w hw=>PM w h.buf ai.buf (bN (bz.buf (d:=h) (S.arg a1)) hw)) .nil) (!(oc h.buf)) (fun ac w β et S=>?_) (fun ac w β et S=>?_)
 ·have c3:=cn et
  exact S.aq 14 .nil [B false] (a6 vS)
 have eL:=b_ et
 refine S.bb 7 (.cons (aE fun w hw=>PM w h.ag ai.ag (bN (bz.ag (d:=h) (S.arg a1)) hw)) .nil) (!(oc h.ag)) (fun ac w β dZ S=>?_) (fun ac w β dZ S=>?_)
 ·have jD:=cn dZ
  exact S.aq 7 .nil [B false] (a6 vS)
 have h9:=b_ dZ
 refine S.go 5 .nil fun ac w β S=>S.mG (α:=Bool) (m:=12) (by':=1) (d:=30) (by omega) (show 12<=4194304 by omega) fun ac w N nj pL S up eo d18=>?_
 clear up d18
 refine S.go 10 .nil fun ac w β S=>?_
 refine dc (fun a5 ac w=>∃(i:Nat) (us:List Bool) (dg:_) (hq:_) (u:_) (N:_) (β:_),a5=h.I.length-i/\(i<=h.I.length)/\((h.I.take i).foldl pH (some (List.replicate 12 false))=some us)/\(us.length=12)/\aj Tryz.prog Tryz.f102.ntmps w0 ab u N β ⟨[(1,.p 0 0),(3,.v (R 12 dg.1)),(4,.v (aa (i:Int)))],[GT.cells h ai]⟩ ac w/\ad w0 ab u N hq us dg) _ ⟨0,(List.replicate 12 (GT.eK:Bool)),nj,pL,_,_,_,rfl,cv,(by rfl),(by rfl),S.z,eo⟩ ?_
 clear S eo
 rintro f22 a5 Jk ac w ⟨i,us,dg,hq,u,N,β,rfl,hi,hu,aeY,S,fU⟩
 refine S.rs fun S=>?_
 refine S.aI 10 .nil (decide ((i:Int)<(h.I.length:Int))) (fun ac w β gM jC S=>?_) (fun ac w β gM jC S=>?_)
 ·refine S.bb 17 (.cons (b6 (bz.I (d:=h) (S.arg a1)) i Tryz.underlying28) (.cons (dy (bz.I (d:=h) (S.arg a1)) 74 i) (.cons (aE fun w hw=>ZE w (el h.I i) (ai.I.2 i) (bN (af.el (bz.I (d:=h) (S.arg a1)) i (by omega)) hw)) .nil))) (!(hP (el h.I i))) (fun ac w β gN S=>?_) (fun ac w β gN S=>?_)
  ·have lP:=cn gN
   exact S.aq 7 .nil [B false] (a6 vS)
  have hB:=b_ gN
  have lN:=q3 hB
  refine S.go 9 .nil fun ac w β S=>?_
  refine dc (fun a5 ac w=>∃(k:Nat) (kl:List Bool) (mA:_) (qx:_) (u:_) (N:_) (β:_),a5=8-k/\(k<=8)/\(((el h.I i).outer.take k).foldl n0 (some us)=some kl)/\(kl.length=12)/\aj Tryz.prog Tryz.f102.ntmps w0 ab u N β ⟨[(1,.p 0 0),(3,.v (R 12 mA.1)),(4,.v (aa (i:Int))),(5,.v (aa (k:Int)))],[GT.cells h ai]⟩ ac w/\ad w0 ab u N qx kl mA) _ ⟨0,us,dg,hq,_,_,_,rfl,cv,(by rfl),(by omega),S.z,fU⟩ ?_
  clear S fU
  rintro f33 a5 D2 ac w ⟨k,kl,mA,qx,u,N,β,rfl,hk,oA,aeZ,S,fV⟩
  refine S.rs fun S=>?_
  have vI:hP (el h.I i)=true:=by assumption
  have vM:=U6 vI k
  have aeE:=(q3 vI).1
  refine S.aI 7 .nil (decide ((k:Int)<8)) (fun ac w β kA pd S=>?_) (fun ac w β kA pd S=>?_)
  ·refine S.aI 26 (.cons (b6 (bz.I (d:=h) (S.arg a1)) i Tryz.underlying28) (.cons (cz (bz.I (d:=h) (S.arg a1)) 64 i 0 (R (el h.I i).outer.length (ai.I.2 i).outer.1)) (.cons (b6 (aU.outer (d:=(el h.I i)) (af.el (bz.I (d:=h) (S.arg a1)) i (by omega))) k Tryz.underlying64) (.cons (cz (aU.outer (d:=(el h.I i)) (af.el (bz.I (d:=h) (S.arg a1)) i (by omega))) 3 k 0 (aa (el (el h.I i).outer k).page)) .nil)))) (decide ((el (el h.I i).outer k).page>=0)) (fun ac w β ja Rd S=>?_) (fun ac w β ja Rd S=>?_)
   ·refine S.bb 7 (.cons (eI fV.ak (l:=12) (k:=(el (el h.I i).outer k).page.toNat) (i:=(el (el h.I i).outer k).page) (by omega) (by omega) (by omega) Tryz.underlying39 (by kernel_rfl)) (.cons (cj fV.ak 4 ((el (el h.I i).outer k).page.toNat)) .nil)) (el kl (el (el h.I i).outer k).page.toNat) (fun ac w β qR S=>?_) (fun ac w β qR S=>?_)
    ·exact S.aq 7 .nil [B false] (a6 vS)
    refine S.go 9 .nil fun ac w β S=>?_
    refine S.lt 68 ja fun S=>?_
    refine S.go 5 (.cons (eI fV.ak (l:=12) (k:=(el (el h.I i).outer k).page.toNat) (i:=(el (el h.I i).outer k).page) (by omega) (by omega) (by omega) Tryz.underlying39 (by kernel_rfl)) .nil) fun ac w β S=>S.fM (α:=Bool) fV (t:=4) (k:=(el (el h.I i).outer k).page.toNat) (j:=0) (off:=mA.1.off+(el (el h.I i).outer k).page.toNat*1) (v:=B true) (y:=true) (q:=()) (fun _ _ _=>⟨ab,trivial,fun _ h=>False.elim h⟩) fun w N n3 BU S up kc d43 tU Lc=>?_
    clear up d43 fV Lc
    have afP:(kl.set (el (el h.I i).outer k).page.toNat true).length=kl.length:=List.length_set
    refine S.ge 8 (.cons (cg (k:Int) 1) .nil) f33 fun ac w β S=>D2.of (8-(k+1)) _ _ (by omega) ⟨k+1,(kl.set (el (el h.I i).outer k).page.toNat true),(mA.1,BU),n3,_,_,_,rfl,?_,?_,?_,S.z,kc⟩
    ·exact cO
    ·clear S;(rw [ta (by omega),oA];first|exact Cr (by omega)|exact sF (by omega) (by assumption)|exact sF (by omega) (by simp_all))
    ·clear S;(first|omega|(simp;omega))
   refine S.go 16 .nil fun ac w β S=>?_
   refine S.lt 68 ja fun S=>?_
   refine S.ge 9 (.cons (cg (k:Int) 1) .nil) f33 fun ac w β S=>D2.of (8-(k+1)) _ _ (by omega) ⟨k+1,kl,mA,qx,_,_,_,rfl,?_,?_,?_,S.z,fV⟩
   ·exact cO
   ·clear S;(rw [ta (by omega),oA];first|exact Cr (by omega)|exact sF (by omega) (by assumption)|exact sF (by omega) (by simp_all))
   ·clear S;(first|omega|(simp;omega))
  refine S.ge 12 (.cons (cg (i:Int) 1) .nil) f22 fun ac w β S=>Jk.of (h.I.length-(i+1)) _ _ (by omega) ⟨i+1,kl,mA,qx,_,_,_,rfl,?_,?_,?_,S.z,fV⟩
  ·exact cO
  ·clear S;(rw [ta (by omega),hu,Cq (by assumption)];rw [fb (by omega)] at oA;exact oA)
  ·clear S;omega
 exact S.aq 12 .nil [B true] (a6 vS)
theorem KG {p:Prop} (h:p:=by clear S;(unfold mf;first|rfl|(simp_all;done))):p:=h
theorem Z0 (w0:World) (h:ah) (ai:cb) (a1:bT w0 h ai) (m:Int) (g:Int):Calls Tryz.prog 29 [GT.val h ai,aa m,aa g].toArray w0 (fun e w'=>e= .returned (B (mf h m g))/\bu ab w0 w'):=by
 refine Calls.run ab Tryz.func29 ?_
 intro ac β S
 have m1:h.mem.length<=4194304:=af.le (bz.mem (d:=h) a1)
 have m2:h.I.length<=4194304:=af.le (bz.I (d:=h) a1)
 have mZ:h.buf.length<=4194304:=af.le (bz.buf (d:=h) a1)
 have m0:h.ag.length<=4194304:=af.le (bz.ag (d:=h) a1)
 refine S.bb 11 (.cons (aE fun w hw=>PT w h ai (bN (S.arg a1) hw)) .nil) (eD h) (fun ac w β h1 S=>?_) (fun ac w β h1 S=>?_)
 ·have a8:=r_ h1
  refine S.bb 8 (.cons (g8 (h.I.length:Int) 1) (.cons (aE fun w hw=>fw w m 0 ((h.I.length:Int)-1)) .nil)) (a3 m 0 ((h.I.length:Int)-1)) (fun ac w β aF S=>?_) (fun ac w β aF S=>?_)
  ·have cB:=cU aF
   have dM:(el h.I m.toNat).U.length<=4194304:=af.le (aU.U (d:=(el h.I m.toNat)) (af.el (bz.I (d:=h) (S.arg a1)) m.toNat (by omega)))
   exact S.aq 15 (.cons (cp (bz.I (d:=h) (S.arg a1)) m Tryz.underlying28) (.cons (cz (bz.I (d:=h) (S.arg a1)) 71 m.toNat 3 (R (el h.I m.toNat).U.length (ai.I.2 m.toNat).U.1)) (.cons (g8 ((el h.I m.toNat).U.length:Int) 1) (.cons (aE fun w hw=>fw w g 0 (((el h.I m.toNat).U.length:Int)-1)) .nil)))) [B (a3 g 0 (((el h.I m.toNat).U.length:Int)-1))] (a6 KG)
  have c7:=dm aF
  exact S.aq 15 .nil [B false] (a6 KG)
 exact S.aq 23 .nil [B false] (a6 KG)
theorem Tt {p:Prop} (h:p:=by clear S;first|rfl|(simp [lK, *];done)|(simp [lK, *];omega)|(simp_all [lK];done)|(simp_all [lK];omega)):p:=h
theorem PN (w0:World) (g:ax) (bc:c6) (aJ:bT w0 g bc):Calls Tryz.prog 104 [GT.val g bc].toArray w0 (fun e w'=>e= .returned (B (lK g))/\bu ab w0 w'):=by
 refine Calls.run ab Tryz.func104 ?_
 intro ac β S
 have iy:g.prog.length<=4194304:=af.le (az.prog (d:=g) aJ)
 have iA:g.written.length<=4194304:=af.le (az.written (d:=g) aJ)
 have ix:g.live.length<=4194304:=af.le (az.live (d:=g) aJ)
 have iz:g.seen.length<=4194304:=af.le (az.seen (d:=g) aJ)
 refine S.bb 13 (.cons (fT (s:=Instr.build 68 [].toArray) (v:= .agg [aa 0,aa 0,B false,aa 0].toArray) (fun w=>by kernel_rfl)) (.cons (CE (t:=68) g.exit (⟨0,0,false,0⟩:df) (by kernel_rfl)) .nil)) (decide (g.exit=(⟨0,0,false,0⟩:df))) (fun ac w β h1 S=>?_) (fun ac w β h1 S=>?_)
 ·exact S.aq 8 .nil [B (!g.halted)] (a6 Tt)
 exact S.aq 8 .nil [B false] (a6 Tt)
theorem KD {p:Prop} (h:p:=by clear S;(first|(exact(aj8 (by assumption) cX (by omega) (by assumption) hb).symm)|(rcases Bool.eq_false_or_eq_true (a3 p 0 255) with bD|bD;exact(aj9 bD (by omega) hb).symm;exact(Nz bD).symm)|(exact(Nz (by assumption)).symm))):p:=h
theorem P0 (w0:World) (p:Int):Calls Tryz.prog 222 [aa p].toArray w0 (fun e w'=>e= .returned (aa (gp p))/\bu ab w0 w'):=by
 refine Calls.run ab Tryz.func222 ?_
 intro ac β S
 refine S.go 12 .nil fun ac w β S=>?_
 refine dc (fun a5 ac w=>∃(n:Int) (u:_) (N:_) (β:_),a5=(n+1).toNat/\(-1<=n/\n<=7)/\(∀j:Nat,n<(j:Int)->j<8->¬jH (sE p (j:Int)) 1=1)/\aj Tryz.prog Tryz.f222.ntmps w0 ab u N β ⟨[(0,.v (aa p)),(3,.v (aa n))],[]⟩ ac w) _ ⟨7,_,_,_,rfl,(by omega),(by(intro j h1 an;omega)),S.z⟩ ?_
 clear S
 rintro f1 a5 fa ac w ⟨n,u,N,β,rfl,cX,hb,S⟩
 refine S.rs fun S=>?_
 refine S.aI 6 .nil (decide (n>=0)) (fun ac w β aF cB S=>?_) (fun ac w β aF cB S=>?_)
 ·refine S.bb 5 (.cons (aE fun w hw=>Hi w p) .nil) (a3 p 0 255) (fun ac w β bl S=>?_) (fun ac w β bl S=>?_)
  ·have c7:=cU bl
   refine S.aI 15 (.cons (GU (s:=3) (d:=185) (x:=n) Tryz.underlying3 Tryz.underlying185 (by omega) (by omega)) (.cons (WW (yk:= .u64) (x:=p) (y:=n) (by omega)) (.cons (qC (x:=(sE p n)) (y:=1)) .nil))) ((jH (sE p n) 1)==1) (fun ac w β cD e_ S=>?_) (fun ac w β cD e_ S=>?_)
   ·exact S.aq 8 .nil [aa n] (b3 KD)
   refine S.ge 9 (.cons (g8 n 1) .nil) f1 fun ac w β S=>fa.of ((n-1)+1).toNat _ _ (by omega) ⟨(n-1),_,_,_,rfl,?_,?_,S.z⟩
   ·clear S;omega
   ·clear S;(intro j h1 an;by_cases e:(j:Int)=n;rw [e];assumption;exact hb j (by omega) an)
  have fx:=dm bl
  exact S.aq 12 .nil [aa (-1)] (b3 KD)
 exact S.aq 17 .nil [aa (-1)] (b3 KD)
theorem PZ (w0:World) (g:ax) (bc:c6) (aJ:bT w0 g bc):Calls Tryz.prog 105 [GT.val g bc].toArray w0 (fun e w'=>e= .returned (B (nI g))/\bu ab w0 w'):=by
 refine Calls.run ab Tryz.func105 ?_
 intro ac β S
 have iy:g.prog.length<=4194304:=af.le (az.prog (d:=g) aJ)
 have iA:g.written.length<=4194304:=af.le (az.written (d:=g) aJ)
 have ix:g.live.length<=4194304:=af.le (az.live (d:=g) aJ)
 have iz:g.seen.length<=4194304:=af.le (az.seen (d:=g) aJ)
 refine S.bb 11 (.cons (aE fun w hw=>PN w g bc (bN (S.arg aJ) hw)) .nil) (lK g) (fun ac w β h1 S=>?_) (fun ac w β h1 S=>?_)
 ·refine S.bb 5 .nil g.aN.eV (fun ac w β an S=>?_) (fun ac w β an S=>?_)
  ·have qF:=Cw g.aB
   exact S.aq 9 (.cons (aE fun w hw=>P0 w g.aB) .nil) [B (decide ((gp g.aB)>=0))] (a6 (by clear S;(simp [nI, *])))
  exact S.aq 9 .nil [B false] (a6 (by clear S;(simp [nI, *])))
 exact S.aq 14 .nil [B false] (a6 (by clear S;(simp [nI, *])))
theorem Tx {p:Prop} (h:p:=by clear S;(first|(unfold bF;rw [if_pos (by omega)];done)|(unfold bF;rw [if_pos (by omega)];first|rfl|(simp;done))|(unfold bF;rw [if_neg (by omega)];done)|(unfold bF;rw [if_neg (by omega)];first|rfl|(simp;done)))):p:=h
theorem uz (w0:World) (p:List c_) (pp:aC c_) (bD:bT w0 p pp) (aw:Int):Calls Tryz.prog 106 [R p.length pp.1,aa aw].toArray w0 (fun e w'=>e= .returned (GT.val (bF p aw) ())/\bu ab w0 w'):=by
 refine Calls.run ab Tryz.func106 ?_
 intro ac β S
 have JF:p.length<=4194304:=af.le bD
 refine S.bb 16 (.cons (g8 (p.length:Int) 1) (.cons (aE fun w hw=>fw w aw 0 ((p.length:Int)-1)) .nil)) (!(a3 aw 0 ((p.length:Int)-1))) (fun ac w β h1 S=>?_) (fun ac w β h1 S=>?_)
 ·have an:=cn h1
  have b4:=dm an
  exact S.aq 8 (.cons (fT (s:=Instr.build 128 [(0,aa 7)].toArray) (v:= .agg [aa 7,aa 0].toArray) (fun w=>by kernel_rfl)) .nil) [GT.val (⟨7,0⟩:c_) ()] (hU (p:=()) Tx)
 have b2:=b_ h1
 have dK:=cU b2
 exact S.aq 13 (.cons (cp (S.arg bD) aw Tryz.underlying63) (.cons (dy (S.arg bD) 128 aw.toNat) .nil)) [GT.val (el p aw.toNat) ()] (hU (p:=()) Tx)
theorem tt {p:Prop} (h:p:=by clear S;(unfold bZ;first|(rw [if_pos (by assumption)];done)|(rw [if_neg (by simp [*]),if_pos (by assumption)];done)|(rw [if_neg (by simp [*]),if_neg (by simp [*])];unfold DE;first|(rw [if_pos (by assumption)];done)|(rw [if_neg (by assumption),if_pos (by assumption)];done)|(rw [if_neg (by assumption),if_neg (by assumption),if_pos (by assumption)];done)|(rw [if_neg (by assumption),if_neg (by assumption),if_neg (by assumption),if_pos (by assumption)];done)|(rw [if_neg (by assumption),if_neg (by assumption),if_neg (by assumption),if_neg (by assumption),if_pos (by assumption)];done)|(rw [if_neg (by assumption),if_neg (by assumption),if_neg (by assumption),if_neg (by assumption),if_neg (by assumption)];done)))):p:=h
theorem Hk (w0:World) (g:ax) (bc:c6) (aJ:bT w0 g bc):Calls Tryz.prog 30 [GT.val g bc].toArray w0 (fun e w'=>e= .returned (aa (bZ g))/\bu ab w0 w'):=by
 refine Calls.run ab Tryz.func30 ?_
 intro ac β S
 have iy:g.prog.length<=4194304:=af.le (az.prog (d:=g) aJ)
 have iA:g.written.length<=4194304:=af.le (az.written (d:=g) aJ)
 have ix:g.live.length<=4194304:=af.le (az.live (d:=g) aJ)
 have iz:g.seen.length<=4194304:=af.le (az.seen (d:=g) aJ)
 refine S.bb 14 (.cons (aE fun w hw=>PN w g bc (bN (S.arg aJ) hw)) .nil) (!(lK g)) (fun ac w β h1 S=>?_) (fun ac w β h1 S=>?_)
 ·have an:=cn h1
  exact S.aq 7 .nil [aa 0] (b3 tt)
 have aF:=b_ h1
 refine S.bb 10 (.cons (aE fun w hw=>PZ w g bc (bN (S.arg aJ) hw)) .nil) (nI g) (fun ac w β b2 S=>?_) (fun ac w β b2 S=>?_)
 ·exact S.aq 7 .nil [aa 1] (b3 tt)
 refine S.aI 21 (.cons (aE fun w hw=>uz w g.prog bc.prog (bN (az.prog (d:=g) (S.arg aJ)) hw) g.aw) .nil) ((bF g.prog g.aw).eF==3) (fun ac w β bl c7 S=>?_) (fun ac w β bl c7 S=>?_)
 ·exact S.aq 7 .nil [aa 3] (b3 tt)
 refine S.aI 7 .nil ((bF g.prog g.aw).eF==4) (fun ac w β cD e_ S=>?_) (fun ac w β cD e_ S=>?_)
 ·exact S.aq 7 .nil [aa 4] (b3 tt)
 refine S.aI 7 .nil ((bF g.prog g.aw).eF==5) (fun ac w β et iP S=>?_) (fun ac w β et iP S=>?_)
 ·exact S.aq 7 .nil [aa 5] (b3 tt)
 refine S.aI 7 .nil ((bF g.prog g.aw).eF==6) (fun ac w β eL h8 S=>?_) (fun ac w β eL h8 S=>?_)
 ·exact S.aq 7 .nil [aa 6] (b3 tt)
 refine S.aI 7 .nil ((bF g.prog g.aw).eF==7) (fun ac w β jD nK S=>?_) (fun ac w β jD nK S=>?_)
 ·exact S.aq 7 .nil [aa 7] (b3 tt)
 exact S.aq 10 .nil [aa 2] (b3 tt)
theorem yz {p:Prop} (h:p:=by clear S;(first|(unfold eE;rw [if_pos (by assumption)];done)|(unfold eE;rw [if_neg (by assumption)];done)|(unfold eE;rw [if_neg (by assumption)];exact F0 (by assumption))|(unfold eE;rw [if_neg (by assumption)];exact(F0 (by assumption)).symm))):p:=h
theorem ZN (w0:World) (p:Int) (bD:a_ p):Calls Tryz.prog 108 [aa p].toArray w0 (fun e w'=>e= .returned (.tuple #[aa (eE p).1,aa (eE p).2.1,B (eE p).2.2])/\bu ab w0 w'):=by
 refine Calls.run ab Tryz.func108 ?_
 intro ac β S
 have aex:=bD.lo;have aed:=bD.hi
 have hv:=Cw p
 refine S.aI 21 (.cons (aE fun w hw=>P0 w p) .nil) (decide ((gp p)<0)) (fun ac w β an b4 S=>?_) (fun ac w β an b4 S=>?_)
 ·exact S.aq 10 .nil [aa p,aa (-1),B false] (FD (h4 (show p=(eE p).1 from yz)) (h4 (show(-1)=(eE p).2.1 from yz)) (jy (show false=(eE p).2.2 from yz)))
 exact S.aq 17 (.cons (GU (s:=3) (d:=185) (x:=(gp p)) Tryz.underlying3 Tryz.underlying185 (by omega) (by omega)) (.cons (Of (yk:= .u64) (x:=1) (y:=(gp p)) (by omega)) (.cons (WZ (x:=p) (y:=(oO 1 (gp p)))) .nil))) [aa (IntKind.i64.wrap (p-(oO 1 (gp p)))),aa (gp p),B true] (FD (h4 (show(IntKind.i64.wrap (p-(oO 1 (gp p))))=(eE p).1 from yz)) (h4 (show(gp p)=(eE p).2.1 from yz)) (jy (show true=(eE p).2.2 from yz)))
theorem TB {p:Prop} (h:p:=by clear S;(first|(unfold g4;rw [if_pos (by omega)];done)|(unfold g4;rw [if_pos (by omega)];first|rfl|(simp;done))|(unfold g4;rw [if_neg (by omega)];done)|(unfold g4;rw [if_neg (by omega)];first|rfl|(simp;done)))):p:=h
theorem PX (w0:World) (g:ax) (bc:c6) (aJ:bT w0 g bc) (n:Int) (cX:a_ n):Calls Tryz.prog 109 [GT.val g bc,aa n].toArray w0 (dw ab w0 (g4 g n:ax)):=by
 refine Calls.run ab Tryz.func109 ?_
 intro ac β S
 have iy:g.prog.length<=4194304:=af.le (az.prog (d:=g) aJ)
 have iA:g.written.length<=4194304:=af.le (az.written (d:=g) aJ)
 have ix:g.live.length<=4194304:=af.le (az.live (d:=g) aJ)
 have iz:g.seen.length<=4194304:=af.le (az.seen (d:=g) aJ)
 have yj:=cX.lo;have yb:=cX.hi
 refine S.go 9 .nil fun ac w β S=>S.cN (r:=g) (d:=6) (uA w g bc (S.rd (S.arg aJ))) fun ac w N ae br S up aD d4=>?_
 clear up d4
 have i8:a_ g.acc:=az.acc (d:=g) aD.ak
 have i9:a_ g.aw:=az.aw (d:=g) aD.ak
 have i16:hr g.aN:=az.aN (d:=g) aD.ak
 have i17:a_ g.aB:=az.aB (d:=g) aD.ak
 have i18:fF g.exit:=az.exit (d:=g) aD.ak
 obtain⟨dO,dT,gb,ko,bJ,bo,c4,fz,_,_,_,_,d22,d23,d24,d25,d26,d27⟩:=mB aD
 refine S.aI 12 .nil (decide ((g.seen.length:Int)<40)) (fun ac w β hB lN S=>?_) (fun ac w β hB lN S=>?_)
 ·refine S.go 5 .nil fun ac w β S=>S.iL (α:=Int) (x:=n) (p:=()) (F:=ab) cX (fun b h=>False.elim h) (fun b h=>False.elim h) (d:=14) fun ac w N mA qx S up fV d33=>?_
  replace bJ:=bJ.up up
  replace bo:=bo.up up
  replace c4:=c4.up up
  replace fz:=fz.up up
  clear up d33
  refine S.k7 (α:=Int) fz fV.ak (fun _ _ h=>h) (by':=8) (d:=15) (lx:=g.seen.length) (ly:=1) rfl rfl (show _<=4194304 by simp only [List.length_append,List.length_cons,List.length_nil];omega) fun ac w N lu wW S up kc d41=>?_
  have d42:=d41 _ d24 bJ.sub
  have d43:=d41 _ d26 bo.sub
  have d44:=d41 _ d27 c4.sub
  replace bJ:=bJ.bw d24 up
  replace bo:=bo.bw d26 up
  replace c4:=c4.bw d27 up
  clear up d41
  refine S.bq 11 .nil [GT.val (⟨g.prog,g.acc,g.aw,g.written,g.live,g.aN,g.aB,g.exit,g.halted,(g.seen++[n])⟩:ax) (⟨ae.prog,ae.written,ae.live,lu⟩:c6)] fun ac w β S=>?_
  have nR:=hI (x:=(⟨g.prog,g.acc,g.aw,g.written,g.live,g.aN,g.aB,g.exit,g.halted,(g.seen++[n])⟩:ax)) (p:=(⟨ae.prog,ae.written,ae.live,lu⟩:c6)) bJ bo c4 kc d22 d23 d42 d25 d43 d44 i8 i9 i16 i17 i18
  exact cx S (show g4 g n=(⟨g.prog,g.acc,g.aw,g.written,g.live,g.aN,g.aB,g.exit,g.halted,(g.seen++[n])⟩:ax) from TB) rfl nR
 refine S.bq 10 .nil [GT.val g ae] fun ac w β S=>?_
 have wc:=hI (x:=g) (p:=ae) bJ bo c4 fz d22 d23 d24 d25 d26 d27 i8 i9 i16 i17 i18
 exact cx S (show g4 g n=g from TB) rfl wc
theorem Ty {p:Prop} (h:p:=by clear S;(unfold jq;first|(rw [if_pos (by assumption)];done)|(rw [if_neg (by simp [*])];done))):p:=h
theorem ZB (w0:World) (g:ax) (bc:c6) (aJ:bT w0 g bc):Calls Tryz.prog 31 [GT.val g bc].toArray w0 (dw ab w0 (jq g:ax)):=by
 refine Calls.run ab Tryz.func31 ?_
 intro ac β S
 have iy:g.prog.length<=4194304:=af.le (az.prog (d:=g) aJ)
 have iA:g.written.length<=4194304:=af.le (az.written (d:=g) aJ)
 have ix:g.live.length<=4194304:=af.le (az.live (d:=g) aJ)
 have iz:g.seen.length<=4194304:=af.le (az.seen (d:=g) aJ)
 refine S.bb 14 (.cons (aE fun w hw=>PZ w g bc (bN (S.arg aJ) hw)) .nil) (!(nI g)) (fun ac w β h1 S=>?_) (fun ac w β h1 S=>?_)
 ·have an:=cn h1
  refine S.go 4 .nil fun ac w β S=>S.cN (r:=g) (d:=10) (uA w g bc (S.rd (S.arg aJ))) fun ac w N sz e4 S up bY d6=>?_
  clear up d6
  refine S.bq 4 .nil [GT.val g sz] fun ac w β S=>?_
  exact cx S (show jq g=g from Ty) rfl bY
 have cD:=b_ h1
 have XH:=VU g.aB
 refine S.go 29 (.cons (aE fun w hw=>ZN w g.aB (az.aB (d:=g) (S.arg aJ))) (.cons (cg 100 ((eE g.aB).2.1)) .nil)) fun ac w β S=>S.cN (r:=g4 (⟨g.prog,g.acc,g.aw,g.written,g.live,g.aN,(eE g.aB).1,g.exit,g.halted,g.seen⟩:ax) (100+(eE g.aB).2.1)) (d:=23) (PX w (⟨g.prog,g.acc,g.aw,g.written,g.live,g.aN,(eE g.aB).1,g.exit,g.halted,g.seen⟩:ax) (⟨bc.prog,bc.written,bc.live,bc.seen⟩:c6) (S.rd (show GT.rd b7 _ _ (⟨g.prog,g.acc,g.aw,g.written,g.live,g.aN,(eE g.aB).1,g.exit,g.halted,g.seen⟩:ax) (⟨bc.prog,bc.written,bc.live,bc.seen⟩:c6) from⟨(az.prog (p:=bc) (d:=g) (S.arg aJ)),(az.acc (d:=g) (S.arg aJ)),(az.aw (d:=g) (S.arg aJ)),(az.written (p:=bc) (d:=g) (S.arg aJ)),(az.live (p:=bc) (d:=g) (S.arg aJ)),(az.aN (d:=g) (S.arg aJ)),(VV (az.aB (d:=g) (S.arg aJ))),(az.exit (d:=g) (S.arg aJ)),(az.seen (p:=bc) (d:=g) (S.arg aJ))⟩)) (100+(eE g.aB).2.1) ⟨by omega,by omega⟩) fun ac w N tQ dT S up bo d12=>?_
 clear up d12
 refine S.bq 4 .nil [GT.val (g4 (⟨g.prog,g.acc,g.aw,g.written,g.live,g.aN,(eE g.aB).1,g.exit,g.halted,g.seen⟩:ax) (100+(eE g.aB).2.1)) tQ] fun ac w β S=>?_
 exact cx S (show jq g=(g4 (⟨g.prog,g.acc,g.aw,g.written,g.live,g.aN,(eE g.aB).1,g.exit,g.halted,g.seen⟩:ax) (100+(eE g.aB).2.1)) from Ty) rfl bo
theorem Tz {p:Prop} (h:p:=by clear S;(unfold a4;first|(rw [if_pos (by omega)];done)|(rw [if_neg (by omega)];done))):p:=h
theorem pT (w0:World) (g:ax) (bc:c6) (aJ:bT w0 g bc):Calls Tryz.prog 110 [GT.val g bc].toArray w0 (dw ab w0 (a4 g:ax)):=by
 refine Calls.run ab Tryz.func110 ?_
 intro ac β S
 have AY:=az.aw (d:=g) aJ
 have hpl:=AY.lo
 have aeL:=AY.hi
 have iy:g.prog.length<=4194304:=af.le (az.prog (d:=g) aJ)
 have iA:g.written.length<=4194304:=af.le (az.written (d:=g) aJ)
 have ix:g.live.length<=4194304:=af.le (az.live (d:=g) aJ)
 have iz:g.seen.length<=4194304:=af.le (az.seen (d:=g) aJ)
 refine S.go 9 .nil fun ac w β S=>S.cN (r:=g) (d:=4) (uA w g bc (S.rd (S.arg aJ))) fun ac w N ae br S up aD d4=>?_
 clear up d4
 have i8:a_ g.acc:=az.acc (d:=g) aD.ak
 have i16:hr g.aN:=az.aN (d:=g) aD.ak
 have i17:a_ g.aB:=az.aB (d:=g) aD.ak
 have i18:fF g.exit:=az.exit (d:=g) aD.ak
 obtain⟨dO,dT,gb,ko,bJ,bo,c4,fz,_,_,_,_,d22,d23,d24,d25,d26,d27⟩:=mB aD
 refine S.aI 11 .nil (decide (g.aw>=12)) (fun ac w β hB lN S=>?_) (fun ac w β hB lN S=>?_)
 ·refine S.bq 13 .nil [GT.val (⟨g.prog,g.acc,12,g.written,g.live,g.aN,g.aB,g.exit,g.halted,g.seen⟩:ax) (⟨ae.prog,ae.written,ae.live,ae.seen⟩:c6)] fun ac w β S=>?_
  have gG:=hI (x:=(⟨g.prog,g.acc,12,g.written,g.live,g.aN,g.aB,g.exit,g.halted,g.seen⟩:ax)) (p:=(⟨ae.prog,ae.written,ae.live,ae.seen⟩:c6)) bJ bo c4 fz d22 d23 d24 d25 d26 d27 i8 (show a_ 12 from⟨by decide,by decide⟩) i16 i17 i18
  exact cx S (show a4 g=(⟨g.prog,g.acc,12,g.written,g.live,g.aN,g.aB,g.exit,g.halted,g.seen⟩:ax) from Tz) rfl gG
 refine S.bq 16 (.cons (cg g.aw 1) .nil) [GT.val (⟨g.prog,g.acc,(g.aw+1),g.written,g.live,g.aN,g.aB,g.exit,g.halted,g.seen⟩:ax) (⟨ae.prog,ae.written,ae.live,ae.seen⟩:c6)] fun ac w β S=>?_
 have lY:=hI (x:=(⟨g.prog,g.acc,(g.aw+1),g.written,g.live,g.aN,g.aB,g.exit,g.halted,g.seen⟩:ax)) (p:=(⟨ae.prog,ae.written,ae.live,ae.seen⟩:c6)) bJ bo c4 fz d22 d23 d24 d25 d26 d27 i8 (show a_ (g.aw+1) from⟨by omega,by omega⟩) i16 i17 i18
 exact cx S (show a4 g=(⟨g.prog,g.acc,(g.aw+1),g.written,g.live,g.aN,g.aB,g.exit,g.halted,g.seen⟩:ax) from Tz) rfl lY
theorem tr {p:Prop} (h:p:=by clear S;(unfold gu;first|(rw [if_neg (by assumption)];done)|(rw [if_pos (by assumption)];unfold Ia;(repeat' split)<;>first|rfl|(exfalso;omega)|(exfalso;simp_all;done)|(exfalso;simp_all;omega)|(simp_all;done)|(simp_all [a4];done)))):p:=h
theorem ZI (w0:World) (g:ax) (bc:c6) (aJ:bT w0 g bc):Calls Tryz.prog 32 [GT.val g bc].toArray w0 (dw ab w0 (gu g:ax)):=by
 refine Calls.run ab Tryz.func32 ?_
 intro ac β S
 have iy:g.prog.length<=4194304:=af.le (az.prog (d:=g) aJ)
 have iA:g.written.length<=4194304:=af.le (az.written (d:=g) aJ)
 have ix:g.live.length<=4194304:=af.le (az.live (d:=g) aJ)
 have iz:g.seen.length<=4194304:=af.le (az.seen (d:=g) aJ)
 have hv:=tZ g
 refine S.aI 14 (.cons (aE fun w hw=>Hk w g bc (bN (S.arg aJ) hw)) .nil) ((bZ g) != 2) (fun ac w β an b4 S=>?_) (fun ac w β an b4 S=>?_)
 ·refine S.go 4 .nil fun ac w β S=>S.cN (r:=g) (d:=9) (uA w g bc (S.rd (S.arg aJ))) fun ac w N oL dO S up bJ d7=>?_
  clear up d7
  have i11:a_ g.acc:=az.acc (d:=g) bJ.ak
  have i12:a_ g.aw:=az.aw (d:=g) bJ.ak
  have i19:hr g.aN:=az.aN (d:=g) bJ.ak
  have i20:a_ g.aB:=az.aB (d:=g) bJ.ak
  have i21:fF g.exit:=az.exit (d:=g) bJ.ak
  obtain⟨eX,gb,pL,fD,bE,c4,eo,ba,_,_,_,_,d25,d26,d27,d28,d29,d30⟩:=mB bJ
  refine S.bq 4 .nil [GT.val g oL] fun ac w β S=>?_
  have lY:=hI (x:=g) (p:=oL) bE c4 eo ba d25 d26 d27 d28 d29 d30 i11 i12 i19 i20 i21
  exact cx S (show gu g=g from tr) rfl lY
 refine S.bb 20 (.cons (aE fun w hw=>uz w g.prog bc.prog (bN (az.prog (d:=g) (S.arg aJ)) hw) g.aw) (.cons (aE fun w hw=>fw w g.acc 0 99) .nil)) (a3 g.acc 0 99) (fun ac w β pf S=>?_) (fun ac w β pf S=>?_)
 ·have z9:=cU pf
  refine S.bb 13 (.cons (aE fun w hw=>fw w (bF g.prog g.aw).x 0 99) .nil) (a3 (bF g.prog g.aw).x 0 99) (fun ac w β uX S=>?_) (fun ac w β uX S=>?_)
  ·have Io:=cU uX
   refine S.lt 4 uX fun S=>?_
   refine S.aI 7 .nil ((bF g.prog g.aw).eF==1) (fun ac w β x5 xQ S=>?_) (fun ac w β x5 xQ S=>?_)
   ·refine S.go 12 .nil fun ac w β S=>S.cN (r:=a4 (⟨g.prog,(bF g.prog g.aw).x,g.aw,g.written,g.live,g.aN,g.aB,g.exit,g.halted,g.seen⟩:ax)) (d:=66) (pT w (⟨g.prog,(bF g.prog g.aw).x,g.aw,g.written,g.live,g.aN,g.aB,g.exit,g.halted,g.seen⟩:ax) (⟨bc.prog,bc.written,bc.live,bc.seen⟩:c6) (S.rd (show GT.rd b7 _ _ (⟨g.prog,(bF g.prog g.aw).x,g.aw,g.written,g.live,g.aN,g.aB,g.exit,g.halted,g.seen⟩:ax) (⟨bc.prog,bc.written,bc.live,bc.seen⟩:c6) from⟨(az.prog (p:=bc) (d:=g) (S.arg aJ)),(iY.x (d:=(bF g.prog g.aw)) (lV (az.prog (d:=g) (S.arg aJ)) g.aw)),(az.aw (d:=g) (S.arg aJ)),(az.written (p:=bc) (d:=g) (S.arg aJ)),(az.live (p:=bc) (d:=g) (S.arg aJ)),(az.aN (d:=g) (S.arg aJ)),(az.aB (d:=g) (S.arg aJ)),(az.exit (d:=g) (S.arg aJ)),(az.seen (p:=bc) (d:=g) (S.arg aJ))⟩))) fun ac w N lu wW S up kc d41=>?_
    clear up d41
    have i45:a_ (a4 (⟨g.prog,(bF g.prog g.aw).x,g.aw,g.written,g.live,g.aN,g.aB,g.exit,g.halted,g.seen⟩:ax)).acc:=az.acc (d:=(a4 (⟨g.prog,(bF g.prog g.aw).x,g.aw,g.written,g.live,g.aN,g.aB,g.exit,g.halted,g.seen⟩:ax))) kc.ak
    have i46:a_ (a4 (⟨g.prog,(bF g.prog g.aw).x,g.aw,g.written,g.live,g.aN,g.aB,g.exit,g.halted,g.seen⟩:ax)).aw:=az.aw (d:=(a4 (⟨g.prog,(bF g.prog g.aw).x,g.aw,g.written,g.live,g.aN,g.aB,g.exit,g.halted,g.seen⟩:ax))) kc.ak
    have i53:hr (a4 (⟨g.prog,(bF g.prog g.aw).x,g.aw,g.written,g.live,g.aN,g.aB,g.exit,g.halted,g.seen⟩:ax)).aN:=az.aN (d:=(a4 (⟨g.prog,(bF g.prog g.aw).x,g.aw,g.written,g.live,g.aN,g.aB,g.exit,g.halted,g.seen⟩:ax))) kc.ak
    have i54:a_ (a4 (⟨g.prog,(bF g.prog g.aw).x,g.aw,g.written,g.live,g.aN,g.aB,g.exit,g.halted,g.seen⟩:ax)).aB:=az.aB (d:=(a4 (⟨g.prog,(bF g.prog g.aw).x,g.aw,g.written,g.live,g.aN,g.aB,g.exit,g.halted,g.seen⟩:ax))) kc.ak
    have i55:fF (a4 (⟨g.prog,(bF g.prog g.aw).x,g.aw,g.written,g.live,g.aN,g.aB,g.exit,g.halted,g.seen⟩:ax)).exit:=az.exit (d:=(a4 (⟨g.prog,(bF g.prog g.aw).x,g.aw,g.written,g.live,g.aN,g.aB,g.exit,g.halted,g.seen⟩:ax))) kc.ak
    obtain⟨zg,CO,qz,j4,k2,tE,g6,m_,_,_,_,_,d59,d60,d61,d62,d63,d64⟩:=mB kc
    refine S.bq 4 .nil [GT.val (a4 (⟨g.prog,(bF g.prog g.aw).x,g.aw,g.written,g.live,g.aN,g.aB,g.exit,g.halted,g.seen⟩:ax)) lu] fun ac w β S=>?_
    have tF:=hI (x:=(a4 (⟨g.prog,(bF g.prog g.aw).x,g.aw,g.written,g.live,g.aN,g.aB,g.exit,g.halted,g.seen⟩:ax))) (p:=lu) k2 tE g6 m_ d59 d60 d61 d62 d63 d64 i45 i46 i53 i54 i55
    exact cx S (show gu g=(a4 (⟨g.prog,(bF g.prog g.aw).x,g.aw,g.written,g.live,g.aN,g.aB,g.exit,g.halted,g.seen⟩:ax)) from tr) rfl tF
   refine S.aI 12 .nil ((bF g.prog g.aw).eF==2) (fun ac w β u1 xU S=>?_) (fun ac w β u1 xU S=>?_)
   ·refine S.go 16 (.cons (cg g.acc ((bF g.prog g.aw).x)) (.cons (oU (x:=(g.acc+(bF g.prog g.aw).x)) (y:=100) (by decide)) .nil)) fun ac w β S=>S.cN (r:=a4 (⟨g.prog,(Int.tmod (g.acc+(bF g.prog g.aw).x) 100),g.aw,g.written,g.live,g.aN,g.aB,g.exit,g.halted,g.seen⟩:ax)) (d:=66) (pT w (⟨g.prog,(Int.tmod (g.acc+(bF g.prog g.aw).x) 100),g.aw,g.written,g.live,g.aN,g.aB,g.exit,g.halted,g.seen⟩:ax) (⟨bc.prog,bc.written,bc.live,bc.seen⟩:c6) (S.rd (show GT.rd b7 _ _ (⟨g.prog,(Int.tmod (g.acc+(bF g.prog g.aw).x) 100),g.aw,g.written,g.live,g.aN,g.aB,g.exit,g.halted,g.seen⟩:ax) (⟨bc.prog,bc.written,bc.live,bc.seen⟩:c6) from⟨(az.prog (p:=bc) (d:=g) (S.arg aJ)),(VX (by decide)),(az.aw (d:=g) (S.arg aJ)),(az.written (p:=bc) (d:=g) (S.arg aJ)),(az.live (p:=bc) (d:=g) (S.arg aJ)),(az.aN (d:=g) (S.arg aJ)),(az.aB (d:=g) (S.arg aJ)),(az.exit (d:=g) (S.arg aJ)),(az.seen (p:=bc) (d:=g) (S.arg aJ))⟩))) fun ac w N qo N9 S up ho d71=>?_
    clear up d71
    have i75:a_ (a4 (⟨g.prog,(Int.tmod (g.acc+(bF g.prog g.aw).x) 100),g.aw,g.written,g.live,g.aN,g.aB,g.exit,g.halted,g.seen⟩:ax)).acc:=az.acc (d:=(a4 (⟨g.prog,(Int.tmod (g.acc+(bF g.prog g.aw).x) 100),g.aw,g.written,g.live,g.aN,g.aB,g.exit,g.halted,g.seen⟩:ax))) ho.ak
    have i76:a_ (a4 (⟨g.prog,(Int.tmod (g.acc+(bF g.prog g.aw).x) 100),g.aw,g.written,g.live,g.aN,g.aB,g.exit,g.halted,g.seen⟩:ax)).aw:=az.aw (d:=(a4 (⟨g.prog,(Int.tmod (g.acc+(bF g.prog g.aw).x) 100),g.aw,g.written,g.live,g.aN,g.aB,g.exit,g.halted,g.seen⟩:ax))) ho.ak
    have i83:hr (a4 (⟨g.prog,(Int.tmod (g.acc+(bF g.prog g.aw).x) 100),g.aw,g.written,g.live,g.aN,g.aB,g.exit,g.halted,g.seen⟩:ax)).aN:=az.aN (d:=(a4 (⟨g.prog,(Int.tmod (g.acc+(bF g.prog g.aw).x) 100),g.aw,g.written,g.live,g.aN,g.aB,g.exit,g.halted,g.seen⟩:ax))) ho.ak
    have i84:a_ (a4 (⟨g.prog,(Int.tmod (g.acc+(bF g.prog g.aw).x) 100),g.aw,g.written,g.live,g.aN,g.aB,g.exit,g.halted,g.seen⟩:ax)).aB:=az.aB (d:=(a4 (⟨g.prog,(Int.tmod (g.acc+(bF g.prog g.aw).x) 100),g.aw,g.written,g.live,g.aN,g.aB,g.exit,g.halted,g.seen⟩:ax))) ho.ak
    have i85:fF (a4 (⟨g.prog,(Int.tmod (g.acc+(bF g.prog g.aw).x) 100),g.aw,g.written,g.live,g.aN,g.aB,g.exit,g.halted,g.seen⟩:ax)).exit:=az.exit (d:=(a4 (⟨g.prog,(Int.tmod (g.acc+(bF g.prog g.aw).x) 100),g.aw,g.written,g.live,g.aN,g.aB,g.exit,g.halted,g.seen⟩:ax))) ho.ak
    obtain⟨oT,WE,zj,dU,hH,l0,nT,hT,_,_,_,_,d89,d90,d91,d92,d93,d94⟩:=mB ho
    refine S.bq 4 .nil [GT.val (a4 (⟨g.prog,(Int.tmod (g.acc+(bF g.prog g.aw).x) 100),g.aw,g.written,g.live,g.aN,g.aB,g.exit,g.halted,g.seen⟩:ax)) qo] fun ac w β S=>?_
    have BF:=hI (x:=(a4 (⟨g.prog,(Int.tmod (g.acc+(bF g.prog g.aw).x) 100),g.aw,g.written,g.live,g.aN,g.aB,g.exit,g.halted,g.seen⟩:ax))) (p:=qo) hH l0 nT hT d89 d90 d91 d92 d93 d94 i75 i76 i83 i84 i85
    exact cx S (show gu g=(a4 (⟨g.prog,(Int.tmod (g.acc+(bF g.prog g.aw).x) 100),g.aw,g.written,g.live,g.aN,g.aB,g.exit,g.halted,g.seen⟩:ax)) from tr) rfl BF
   refine S.aI 10 .nil ((bF g.prog g.aw).eF==8) (fun ac w β IU Ri S=>?_) (fun ac w β IU Ri S=>?_)
   ·refine S.aI 7 .nil (g.acc==0) (fun ac w β ac6 aco S=>?_) (fun ac w β ac6 aco S=>?_)
    ·refine S.go 4 .nil fun ac w β S=>S.cN (r:=g) (d:=60) (uA w g bc (S.rd (S.arg aJ))) fun ac w N mz jv S up oD d103=>?_
     clear up d103
     have i107:a_ g.acc:=az.acc (d:=g) oD.ak
     have i115:hr g.aN:=az.aN (d:=g) oD.ak
     have i116:a_ g.aB:=az.aB (d:=g) oD.ak
     have i117:fF g.exit:=az.exit (d:=g) oD.ak
     obtain⟨iM,F9,CF,zc,nP,EU,ag1,px,_,_,_,_,d121,d122,d123,d124,d125,d126⟩:=mB oD
     refine S.bq 18 .nil [GT.val (⟨g.prog,g.acc,(bF g.prog g.aw).x,g.written,g.live,g.aN,g.aB,g.exit,g.halted,g.seen⟩:ax) (⟨mz.prog,mz.written,mz.live,mz.seen⟩:c6)] fun ac w β S=>?_
     have v5:=hI (x:=(⟨g.prog,g.acc,(bF g.prog g.aw).x,g.written,g.live,g.aN,g.aB,g.exit,g.halted,g.seen⟩:ax)) (p:=(⟨mz.prog,mz.written,mz.live,mz.seen⟩:c6)) nP EU ag1 px d121 d122 d123 d124 d125 d126 i107 (iY.x (d:=(bF g.prog g.aw)) (lV (az.prog (d:=g) (S.arg aJ)) g.aw)) i115 i116 i117
     exact cx S (show gu g=(⟨g.prog,g.acc,(bF g.prog g.aw).x,g.written,g.live,g.aN,g.aB,g.exit,g.halted,g.seen⟩:ax) from tr) rfl v5
    refine S.go 7 .nil fun ac w β S=>S.cN (r:=a4 g) (d:=66) (pT w g bc (S.rd (S.arg aJ))) fun ac w N Vc zd S up mx d131=>?_
    clear up d131
    have i135:a_ (a4 g).acc:=az.acc (d:=(a4 g)) mx.ak
    have i136:a_ (a4 g).aw:=az.aw (d:=(a4 g)) mx.ak
    have i143:hr (a4 g).aN:=az.aN (d:=(a4 g)) mx.ak
    have i144:a_ (a4 g).aB:=az.aB (d:=(a4 g)) mx.ak
    have i145:fF (a4 g).exit:=az.exit (d:=(a4 g)) mx.ak
    obtain⟨NR,ak9,ala,CJ,Bq,nQ,sm,q7,_,_,_,_,d149,d150,d151,d152,d153,d154⟩:=mB mx
    refine S.bq 4 .nil [GT.val (a4 g) Vc] fun ac w β S=>?_
    have jb:=hI (x:=(a4 g)) (p:=Vc) Bq nQ sm q7 d149 d150 d151 d152 d153 d154 i135 i136 i143 i144 i145
    exact cx S (show gu g=(a4 g) from tr) rfl jb
   refine S.go 14 .nil fun ac w β S=>S.cN (r:=a4 g) (d:=66) (pT w g bc (S.rd (S.arg aJ))) fun ac w N Vh alb S up oE d159=>?_
   clear up d159
   have i163:a_ (a4 g).acc:=az.acc (d:=(a4 g)) oE.ak
   have i164:a_ (a4 g).aw:=az.aw (d:=(a4 g)) oE.ak
   have i171:hr (a4 g).aN:=az.aN (d:=(a4 g)) oE.ak
   have i172:a_ (a4 g).aB:=az.aB (d:=(a4 g)) oE.ak
   have i173:fF (a4 g).exit:=az.exit (d:=(a4 g)) oE.ak
   obtain⟨ald,Wj,ale,alf,Lj,ag6,ag7,ag9,_,_,_,_,d177,d178,d179,d180,d181,d182⟩:=mB oE
   refine S.bq 4 .nil [GT.val (a4 g) Vh] fun ac w β S=>?_
   have aha:=hI (x:=(a4 g)) (p:=Vh) Lj ag6 ag7 ag9 d177 d178 d179 d180 d181 d182 i163 i164 i171 i172 i173
   exact cx S (show gu g=(a4 g) from tr) rfl aha
  have anu:=dm uX
  refine S.lt 4 uX fun S=>?_
  refine S.go 43 .nil fun ac w β S=>S.cN (r:=a4 g) (d:=66) (pT w g bc (S.rd (S.arg aJ))) fun ac w N Vj alg S up yE d188=>?_
  clear up d188
  have i192:a_ (a4 g).acc:=az.acc (d:=(a4 g)) yE.ak
  have i193:a_ (a4 g).aw:=az.aw (d:=(a4 g)) yE.ak
  have i200:hr (a4 g).aN:=az.aN (d:=(a4 g)) yE.ak
  have i201:a_ (a4 g).aB:=az.aB (d:=(a4 g)) yE.ak
  have i202:fF (a4 g).exit:=az.exit (d:=(a4 g)) yE.ak
  obtain⟨alh,ali,jP,alk,Bs,qj,ahc,ahd,_,_,_,_,d206,d207,d208,d209,d210,d211⟩:=mB yE
  refine S.bq 4 .nil [GT.val (a4 g) Vj] fun ac w β S=>?_
  have ahf:=hI (x:=(a4 g)) (p:=Vj) Bs qj ahc ahd d206 d207 d208 d209 d210 d211 i192 i193 i200 i201 i202
  exact cx S (show gu g=(a4 g) from tr) rfl ahf
 have anx:=dm pf
 refine S.go 56 .nil fun ac w β S=>S.cN (r:=a4 g) (d:=66) (pT w g bc (S.rd (S.arg aJ))) fun ac w N lr kp S up lX d217=>?_
 clear up d217
 have i221:a_ (a4 g).acc:=az.acc (d:=(a4 g)) lX.ak
 have i222:a_ (a4 g).aw:=az.aw (d:=(a4 g)) lX.ak
 have i229:hr (a4 g).aN:=az.aN (d:=(a4 g)) lX.ak
 have i230:a_ (a4 g).aB:=az.aB (d:=(a4 g)) lX.ak
 have i231:fF (a4 g).exit:=az.exit (d:=(a4 g)) lX.ak
 obtain⟨kq,N1,aln,iW,sn,yF,ahh,fR,_,_,_,_,d235,d236,d237,d238,d239,d240⟩:=mB lX
 refine S.bq 4 .nil [GT.val (a4 g) lr] fun ac w β S=>?_
 have ahi:=hI (x:=(a4 g)) (p:=lr) sn yF ahh fR d235 d236 d237 d238 d239 d240 i221 i222 i229 i230 i231
 exact cx S (show gu g=(a4 g) from tr) rfl ahi
theorem Kx {p:Prop} (h:p:=by clear S;(unfold bm;first|(rw [if_pos (by first|exact Or.inl (by assumption)|exact Or.inr (by assumption)|omega)];done)|(rw [if_neg (by omega)];done))):p:=h
theorem Zl (w0:World) (g:ax) (bc:c6) (aJ:bT w0 g bc):Calls Tryz.prog 111 [GT.val g bc].toArray w0 (fun e w'=>e= .returned (aa (bm g))/\bu ab w0 w'):=by
 refine Calls.run ab Tryz.func111 ?_
 intro ac β S
 have iy:g.prog.length<=4194304:=af.le (az.prog (d:=g) aJ)
 have iA:g.written.length<=4194304:=af.le (az.written (d:=g) aJ)
 have ix:g.live.length<=4194304:=af.le (az.live (d:=g) aJ)
 have iz:g.seen.length<=4194304:=af.le (az.seen (d:=g) aJ)
 have hv:=tZ g
 refine S.aI 19 (.cons (aE fun w hw=>Hk w g bc (bN (S.arg aJ) hw)) .nil) ((bZ g) != 3) (fun ac w β an b4 S=>?_) (fun ac w β an b4 S=>?_)
 ·refine S.aI 5 .nil ((bZ g) != 4) (fun ac w β b2 dK S=>?_) (fun ac w β b2 dK S=>?_)
  ·exact S.aq 7 .nil [aa (-1)] (b3 Kx)
  exact S.aq 15 (.cons (aE fun w hw=>uz w g.prog bc.prog (bN (az.prog (d:=g) (S.arg aJ)) hw) g.aw) .nil) [aa (bF g.prog g.aw).x] (b3 Kx)
 exact S.aq 20 (.cons (aE fun w hw=>uz w g.prog bc.prog (bN (az.prog (d:=g) (S.arg aJ)) hw) g.aw) .nil) [aa (bF g.prog g.aw).x] (b3 Kx)
theorem Tr {p:Prop} (h:p:=by clear S;(first|(unfold cr;rw [if_pos (by omega)];done)|(unfold cr;rw [if_pos (by omega)];first|rfl|(simp;done))|(unfold cr;rw [if_neg (by omega)];done)|(unfold cr;rw [if_neg (by omega)];first|rfl|(simp;done)))):p:=h
theorem PK (w0:World) (addr:Int) (oq:a_ addr):Calls Tryz.prog 113 [aa addr].toArray w0 (fun e w'=>e= .returned (aa (cr addr))/\bu ab w0 w'):=by
 refine Calls.run ab Tryz.func113 ?_
 intro ac β S
 have JH:=oq.lo;have Jo:=oq.hi
 refine S.aI 12 .nil (decide (addr<0)) (fun ac w β h1 a8 S=>?_) (fun ac w β h1 a8 S=>?_)
 ·exact S.aq 7 .nil [aa (-1)] (b3 Tr)
 exact S.aq 11 (.cons (Oe (x:=addr) (y:=4) (by decide) (VW oq (by omega))) .nil) [aa (Int.tdiv addr 4)] (b3 Tr)
theorem ZF (w0:World) (write:Bool):Calls Tryz.prog 114 [B write].toArray w0 (fun e w'=>e= .returned (aa (dB write))/\bu ab w0 w'):=by
 refine Calls.run ab Tryz.func114 ?_
 intro ac β S
 refine S.bb 11 .nil write (fun ac w β h1 S=>?_) (fun ac w β h1 S=>?_)
 ·exact S.aq 7 .nil [aa 2] (b3 (by clear S;(simp [dB, *])))
 exact S.aq 9 .nil [aa 1] (b3 (by clear S;(simp [dB, *])))
theorem TC {p:Prop} (h:p:=by clear S;(first|(unfold eO;rw [if_pos (by omega)])|(unfold eO;rw [if_neg (by omega)]))):p:=h
theorem PY (w0:World) (t:List aQ) (bg:aC aQ) (bs:bT w0 t bg) (page:Int):Calls Tryz.prog 273 [R t.length bg.1,aa page].toArray w0 (fun e w'=>e= .returned (GT.val (eO t page) ())/\bu ab w0 w'):=by
 refine Calls.run ab Tryz.func273 ?_
 intro ac β S
 have AU:t.length<=4194304:=af.le bs
 refine S.bb 16 (.cons (g8 (t.length:Int) 1) (.cons (aE fun w hw=>fw w page 0 ((t.length:Int)-1)) .nil)) (!(a3 page 0 ((t.length:Int)-1))) (fun ac w β h1 S=>?_) (fun ac w β h1 S=>?_)
 ·have an:=cn h1
  have b4:=dm an
  exact S.aq 8 (.cons (aE fun w hw=>nz w) .nil) [GT.val (⟨-1,0⟩:aQ) ()] (hU (p:=()) TC)
 have b2:=b_ h1
 have dK:=cU b2
 exact S.aq 13 (.cons (cp (S.arg bs) page Tryz.underlying64) (.cons (dy (S.arg bs) 111 page.toNat) .nil)) [GT.val (el t page.toNat) ()] (hU (p:=()) TC)
theorem ts {p:Prop} (h:p:=by clear S;(unfold cV;(repeat' split)<;>first|rfl|(exfalso;omega)|(exfalso;simp_all;done)|(exfalso;simp_all;omega))):p:=h
theorem ZP (w0:World) (inner:List aQ) (jc:aC aQ) (k0:bT w0 inner jc) (page:Int) (need:Int):Calls Tryz.prog 223 [R inner.length jc.1,aa page,aa need].toArray w0 (fun e w'=>e= .returned (.tuple #[aa (cV inner page need).1,B (cV inner page need).2])/\bu ab w0 w'):=by
 refine Calls.run ab Tryz.func223 ?_
 intro ac β S
 have AT:inner.length<=4194304:=af.le k0
 refine S.aI 22 (.cons (aE fun w hw=>PY w inner jc (bN (S.arg k0) hw) page) .nil) ((eO inner page).page==(-1)) (fun ac w β h1 a8 S=>?_) (fun ac w β h1 a8 S=>?_)
 ·exact S.aq 20 .nil [aa (-1),B false] (jg (h4 (show(-1)=(cV inner page need).1 from ts)) (jy (show false=(cV inner page need).2 from ts)))
 refine S.bb 7 (.cons (aE fun w hw=>Dg w (eO inner page).bd need) .nil) (!(e8 (eO inner page).bd need)) (fun ac w β aF S=>?_) (fun ac w β aF S=>?_)
 ·have b2:=cn aF
  exact S.aq 13 .nil [aa (-1),B false] (jg (h4 (show(-1)=(cV inner page need).1 from ts)) (jy (show false=(cV inner page need).2 from ts)))
 have bl:=b_ aF
 have c7:=qJ bl
 refine S.aI 5 .nil (need==0) (fun ac w β cD e_ S=>?_) (fun ac w β cD e_ S=>?_)
 ·exact S.aq 8 .nil [aa (-1),B false] (jg (h4 (show(-1)=(cV inner page need).1 from ts)) (jy (show false=(cV inner page need).2 from ts)))
 exact S.aq 12 .nil [aa (eO inner page).page,B true] (jg (h4 (show(eO inner page).page=(cV inner page need).1 from ts)) (jy (show true=(cV inner page need).2 from ts)))
theorem KC {p:Prop} (h:p:=by clear S;(first|(unfold bO;rw [if_pos (by omega)];done)|(unfold bO;rw [if_pos (by omega)];first|rfl|(simp;done))|(unfold bO;rw [if_neg (by omega)];done)|(unfold bO;rw [if_neg (by omega)];first|rfl|(simp;done)))):p:=h
theorem ZM (w0:World) (m:Int) (g:Int):Calls Tryz.prog 175 [aa m,aa g].toArray w0 (fun e w'=>e= .returned (aa (bO m g))/\bu ab w0 w'):=by
 refine Calls.run ab Tryz.func175 ?_
 intro ac β S
 refine S.bb 12 (.cons (aE fun w hw=>fw w m 0 2) .nil) (!(a3 m 0 2)) (fun ac w β h1 S=>?_) (fun ac w β h1 S=>?_)
 ·have an:=cn h1
  have b4:=dm an
  exact S.aq 13 .nil [aa 0] (b3 KC)
 have b2:=b_ h1
 have dK:=cU b2
 refine S.bb 6 (.cons (aE fun w hw=>fw w g 0 1) .nil) (!(a3 g 0 1)) (fun ac w β cR S=>?_) (fun ac w β cR S=>?_)
 ·have cD:=cn cR
  have e_:=dm cD
  exact S.aq 7 .nil [aa 0] (b3 KC)
 have et:=b_ cR
 have iP:=cU et
 exact S.aq 14 (.cons (cg 1 g) (.cons (Od (x:=m) (y:=2) ⟨by omega,by omega⟩) (.cons (cg (1+g) (m*2)) .nil))) [aa ((1+g)+(m*2))] (b3 KC)
theorem Ez {p:Prop} (h:p:=by clear S;(first|(rw [QY (by omega) bf];done)|(rw [QZ (k:=k) (by omega) bf (Cl (by assumption) (by assumption))];done))):p:=h
theorem Zv (w0:World) (b:List aG) (bB:aC aG) (hb:bT w0 b bB) (tag:Int) (page:Int):Calls Tryz.prog 224 [R b.length bB.1,aa tag,aa page].toArray w0 (fun e w'=>e= .returned (.tuple #[GT.val (ds b tag page).1 (),B (ds b tag page).2])/\bu ab w0 w'):=by
 refine Calls.run ab Tryz.func224 ?_
 intro ac β S
 have kD:b.length<=4194304:=af.le hb
 refine S.go 13 .nil fun ac w β S=>?_
 refine dc (fun a5 ac w=>∃(k:Nat) (u:_) (N:_) (β:_),a5=b.length-k/\(k<=b.length)/\((b.take k).find? (fun e=>h7 e tag page)=none)/\aj Tryz.prog Tryz.f224.ntmps w0 ab u N β ⟨[(0,.v (R b.length bB.1)),(1,.v (aa tag)),(2,.v (aa page)),(6,.p 0 0),(8,.v (aa (k:Int)))],[ck aG]⟩ ac w) _ ⟨0,_,_,_,rfl,cv,(by rfl),S.z⟩ ?_
 clear S
 rintro f1 a5 fa ac w ⟨k,u,N,β,rfl,hk,bf,S⟩
 refine S.rs fun S=>?_
 refine S.aI 9 .nil (decide ((k:Int)<(b.length:Int))) (fun ac w β aF cB S=>?_) (fun ac w β aF cB S=>?_)
 ·refine S.aI 15 (.cons (b6 (S.arg hb) k Tryz.underlying29) (.cons (cz (S.arg hb) 3 k 0 (aa (el b k).tag)) .nil)) ((el b k).tag==tag) (fun ac w β bl c7 S=>?_) (fun ac w β bl c7 S=>?_)
  ·refine S.aI 10 (.cons (b6 (S.arg hb) k Tryz.underlying29) (.cons (cz (S.arg hb) 3 k 1 (aa (el b k).page)) .nil)) ((el b k).page==page) (fun ac w β cD e_ S=>?_) (fun ac w β cD e_ S=>?_)
   ·exact S.aq 12 (.cons (b6 (S.arg hb) k Tryz.underlying29) (.cons (dy (S.arg hb) 138 k) .nil)) [GT.val (el b k) (),B true] (jg (congrArg (fun z=>GT.val z ()) (show(el b k)=(ds b tag page).1 from Ez)) (jy (show true=(ds b tag page).2 from Ez)))
   refine S.ge 9 (.cons (cg (k:Int) 1) .nil) f1 fun ac w β S=>fa.of (b.length-(k+1)) _ _ (by omega) ⟨k+1,_,_,_,rfl,?_,?_,S.z⟩
   ·exact cO
   ·clear S;(first|exact s8 (by omega) bf (sC (by assumption))|exact s8 (by omega) bf (wE (by assumption)))
  refine S.ge 19 (.cons (cg (k:Int) 1) .nil) f1 fun ac w β S=>fa.of (b.length-(k+1)) _ _ (by omega) ⟨k+1,_,_,_,rfl,?_,?_,S.z⟩
  ·exact cO
  ·clear S;(first|exact s8 (by omega) bf (sC (by assumption))|exact s8 (by omega) bf (wE (by assumption)))
 exact S.aq 14 (.cons (fT (s:=Instr.build 138 [].toArray) (v:= .agg [aa 0,aa 0,aa 0,aa 0].toArray) (fun w=>by kernel_rfl)) .nil) [GT.val (⟨0,0,0,0⟩:aG) (),B false] (jg (congrArg (fun z=>GT.val z ()) (show(⟨0,0,0,0⟩:aG)=(ds b tag page).1 from Ez)) (jy (show false=(ds b tag page).2 from Ez)))
theorem Hl (w0:World) (k:bQ) (ej:fm) (hk:bT w0 k ej) (page:Int):Calls Tryz.prog 274 [GT.val k ej,aa page].toArray w0 (fun e w'=>e= .returned (B (decide ((0<=page/\page<k.known.length)/\page<k.aY.length)))/\bu ab w0 w'):=by
 refine Calls.run ab Tryz.func274 ?_
 intro ac β S
 have qU:k.known.length<=4194304:=af.le (er.known (d:=k) hk)
 have qV:k.aY.length<=4194304:=af.le (er.aY (d:=k) hk)
 refine S.bb 15 (.cons (g8 (k.known.length:Int) 1) (.cons (aE fun w hw=>fw w page 0 ((k.known.length:Int)-1)) .nil)) (a3 page 0 ((k.known.length:Int)-1)) (fun ac w β h1 S=>?_) (fun ac w β h1 S=>?_)
 ·have a8:=cU h1
  exact S.aq 10 .nil [B (decide (page<(k.aY.length:Int)))] (a6 (by clear S;(rw [Bool.eq_iff_iff];simp;omega)))
 have b4:=dm h1
 exact S.aq 10 .nil [B false] (a6 (by clear S;(rw [Bool.eq_iff_iff];simp;omega)))
theorem yx {p:Prop} (h:p:=by clear S;(unfold aV;(repeat' split)<;>first|rfl|(exfalso;omega)|(exfalso;simp_all;done)|(exfalso;simp_all;omega)|(simp_all;done))):p:=h
theorem PL (w0:World) (k:bQ) (ej:fm) (hk:bT w0 k ej) (page:Int):Calls Tryz.prog 226 [GT.val k ej,aa page].toArray w0 (fun e w'=>e= .returned (.tuple #[GT.val (aV k page).1 (),B (aV k page).2])/\bu ab w0 w'):=by
 refine Calls.run ab Tryz.func226 ?_
 intro ac β S
 have qU:k.known.length<=4194304:=af.le (er.known (d:=k) hk)
 have qV:k.aY.length<=4194304:=af.le (er.aY (d:=k) hk)
 refine S.bb 15 (.cons (aE fun w hw=>Hl w k ej (bN (S.arg hk) hw) page) .nil) (!(decide ((0<=page/\page<k.known.length)/\page<k.aY.length))) (fun ac w β h1 S=>?_) (fun ac w β h1 S=>?_)
 ·have an:=cn h1
  have b4:=of_decide_eq_false an
  exact S.aq 18 (.cons (aE fun w hw=>nz w) .nil) [GT.val (⟨-1,0⟩:aQ) (),B false] (jg (congrArg (fun z=>GT.val z ()) (show(⟨-1,0⟩:aQ)=(aV k page).1 from yx)) (jy (show false=(aV k page).2 from yx)))
 have b2:=b_ h1
 have dK:=of_decide_eq_true b2
 refine S.bb 9 (.cons (cp (er.known (d:=k) (S.arg hk)) page Tryz.underlying39) (.cons (cj (er.known (d:=k) (S.arg hk)) 4 page.toNat) .nil)) (!(el k.known page.toNat)) (fun ac w β cR S=>?_) (fun ac w β cR S=>?_)
 ·have cD:=cn cR
  exact S.aq 9 (.cons (aE fun w hw=>nz w) .nil) [GT.val (⟨-1,0⟩:aQ) (),B false] (jg (congrArg (fun z=>GT.val z ()) (show(⟨-1,0⟩:aQ)=(aV k page).1 from yx)) (jy (show false=(aV k page).2 from yx)))
 have db:=b_ cR
 exact S.aq 15 (.cons (cp (er.aY (d:=k) (S.arg hk)) page Tryz.underlying64) (.cons (dy (er.aY (d:=k) (S.arg hk)) 111 page.toNat) .nil)) [GT.val (el k.aY page.toNat) (),B true] (jg (congrArg (fun z=>GT.val z ()) (show(el k.aY page.toNat)=(aV k page).1 from yx)) (jy (show true=(aV k page).2 from yx)))
theorem yy {p:Prop} (h:p:=by clear S;(first|rw [L9 (by omega)]|rw [UK (he.trans (L3 (by omega)))]|rw [L_ (by omega),he,UF (by omega) (kC.trans (L5 (by omega) (by assumption)))])):p:=h
theorem PV (w0:World) (h:ah) (ai:cb) (a1:bT w0 h ai) (page:Int):Calls Tryz.prog 320 [GT.val h ai,aa page].toArray w0 (fun e w'=>e= .returned (.tuple #[aa (dX h page).1,aa (dX h page).2])/\bu ab w0 w'):=by
 refine Calls.run ab Tryz.func320 ?_
 intro ac β S
 have m1:h.mem.length<=4194304:=af.le (bz.mem (d:=h) a1)
 have m2:h.I.length<=4194304:=af.le (bz.I (d:=h) a1)
 have mZ:h.buf.length<=4194304:=af.le (bz.buf (d:=h) a1)
 have m0:h.ag.length<=4194304:=af.le (bz.ag (d:=h) a1)
 refine S.go 14 .nil fun ac w β S=>?_
 refine dc (fun a5 ac w=>∃(i:Nat) (u:_) (N:_) (β:_),a5=h.I.length-i/\(i<=h.I.length)/\(ir h.I page 0=ir h.I page i)/\aj Tryz.prog Tryz.f320.ntmps w0 ab u N β ⟨[(1,.v (aa page)),(2,.p 0 0),(6,.v (aa (i:Int)))],[GT.cells h ai]⟩ ac w) _ ⟨0,_,_,_,rfl,cv,cv,S.z⟩ ?_
 clear S
 rintro f1 a5 fa ac w ⟨i,u,N,β,rfl,hi,he,S⟩
 refine S.rs fun S=>?_
 refine S.aI 9 .nil (decide ((i:Int)<(h.I.length:Int))) (fun ac w β aF cB S=>?_) (fun ac w β aF cB S=>?_)
 ·refine S.aI 5 .nil (decide (page>=0)) (fun ac w β bl c7 S=>?_) (fun ac w β bl c7 S=>?_)
  ·refine S.go 11 .nil fun ac w β S=>?_
   refine dc (fun a5 ac w=>∃(k:Nat) (u:_) (N:_) (β:_),a5=(el h.I i).outer.length-k/\(k<=(el h.I i).outer.length)/\(jV (el h.I i).outer page 0=jV (el h.I i).outer page k)/\aj Tryz.prog Tryz.f320.ntmps w0 ab u N β ⟨[(1,.v (aa page)),(2,.p 0 0),(6,.v (aa (i:Int))),(7,.v (aa (k:Int)))],[GT.cells h ai]⟩ ac w) _ ⟨0,_,_,_,rfl,cv,cv,S.z⟩ ?_
   clear S
   rintro f7 a5 ad_ ac w ⟨k,u,N,β,rfl,hk,kC,S⟩
   refine S.rs fun S=>?_
   have AS:(el h.I i).outer.length<=4194304:=af.le (aU.outer (d:=el h.I i) (af.el (bz.I (d:=h) a1) i (by omega)))
   have ux:(el h.I i).outer.length<=4194304:=af.le (aU.outer (d:=(el h.I i)) (af.el (bz.I (d:=h) (S.arg a1)) i (by omega)))
   refine S.aI 14 (.cons (b6 (bz.I (d:=h) (S.arg a1)) i Tryz.underlying28) (.cons (cz (bz.I (d:=h) (S.arg a1)) 64 i 0 (R (el h.I i).outer.length (ai.I.2 i).outer.1)) .nil)) (decide ((k:Int)<((el h.I i).outer.length:Int))) (fun ac w β c3 dY S=>?_) (fun ac w β c3 dY S=>?_)
   ·refine S.aI 21 (.cons (b6 (bz.I (d:=h) (S.arg a1)) i Tryz.underlying28) (.cons (cz (bz.I (d:=h) (S.arg a1)) 64 i 0 (R (el h.I i).outer.length (ai.I.2 i).outer.1)) (.cons (b6 (aU.outer (d:=(el h.I i)) (af.el (bz.I (d:=h) (S.arg a1)) i (by omega))) k Tryz.underlying64) (.cons (cz (aU.outer (d:=(el h.I i)) (af.el (bz.I (d:=h) (S.arg a1)) i (by omega))) 3 k 0 (aa (el (el h.I i).outer k).page)) .nil)))) ((el (el h.I i).outer k).page==page) (fun ac w β dZ hA S=>?_) (fun ac w β dZ hA S=>?_)
    ·exact S.aq 10 .nil [aa (i:Int),aa (k:Int)] (jg (h4 (show(i:Int)=(dX h page).1 from yy)) (h4 (show(k:Int)=(dX h page).2 from yy)))
    refine S.ge 9 (.cons (cg (k:Int) 1) .nil) f7 fun ac w β S=>ad_.of ((el h.I i).outer.length-(k+1)) _ _ (by omega) ⟨k+1,_,_,_,rfl,?_,?_,S.z⟩
    ·exact cO
    ·clear S;exact kC.trans (L6 (by omega) (by assumption))
   refine S.ge 12 (.cons (cg (i:Int) 1) .nil) f1 fun ac w β S=>fa.of (h.I.length-(i+1)) _ _ (by omega) ⟨i+1,_,_,_,rfl,?_,?_,S.z⟩
   ·exact cO
   ·clear S;exact he.trans (UG (by omega) (kC.trans (L4 (by omega))))
  exact S.aq 13 .nil [aa (-1),aa (-1)] (jg (h4 (show(-1)=(dX h page).1 from yy)) (h4 (show(-1)=(dX h page).2 from yy)))
 exact S.aq 18 .nil [aa (-1),aa (-1)] (jg (h4 (show(-1)=(dX h page).1 from yy)) (h4 (show(-1)=(dX h page).2 from yy)))
theorem PR (w0:World) (h:ah) (ai:cb) (a1:bT w0 h ai):Calls Tryz.prog 319 [GT.val h ai].toArray w0 (dw ab w0 (eg h:List Int)):=by
 refine Calls.run ab Tryz.func319 ?_
 intro ac β S
 have m1:h.mem.length<=4194304:=af.le (bz.mem (d:=h) a1)
 have m2:h.I.length<=4194304:=af.le (bz.I (d:=h) a1)
 have mZ:h.buf.length<=4194304:=af.le (bz.buf (d:=h) a1)
 have m0:h.ag.length<=4194304:=af.le (bz.ag (d:=h) a1)
 refine S.go 8 .nil fun ac w β S=>S.gR (α:=Int) (d:=7) fun ac w N ae br S up aD d4=>?_
 clear up d4
 refine S.go 10 .nil fun ac w β S=>?_
 refine dc (fun a5 ac w=>∃(k:Nat) (acc:List Int) (bL:_) (cW:_) (u:_) (N:_) (β:_),a5=h.mem.length-k/\(k<=h.mem.length)/\(acc=lL k (fun p=>decide ((dX h p).1<0)))/\aj Tryz.prog Tryz.f319.ntmps w0 ab u N β ⟨[(1,.p 0 0),(3,.v (R acc.length bL.1)),(4,.v (aa (k:Int)))],[GT.cells h ai]⟩ ac w/\ad w0 ab u N cW acc bL) _ ⟨0,([]:List Int),ae,br,_,_,_,rfl,cv,(by rfl),S.z,aD⟩ ?_
 clear S aD
 rintro f8 a5 eT ac w ⟨k,acc,bL,cW,u,N,β,rfl,hk,bt,S,ao⟩
 refine S.rs fun S=>?_
 have gD:acc.length<=k:=by rw [bt];exact yu _ _
 refine S.aI 10 .nil (decide ((k:Int)<(h.mem.length:Int))) (fun ac w β c3 dY S=>?_) (fun ac w β c3 dY S=>?_)
 ·refine S.aI 23 (.cons (aE fun w hw=>PV w h ai (bN (S.arg a1) hw) (k:Int)) .nil) (decide ((dX h (k:Int)).1<0)) (fun ac w β dZ hA S=>?_) (fun ac w β dZ hA S=>?_)
  ·refine S.go 4 .nil fun ac w β S=>S.iL (α:=Int) (x:=(k:Int)) (p:=()) (F:=ab) ⟨by omega,by omega⟩ (fun b h=>False.elim h) (fun b h=>False.elim h) (d:=25) fun ac w N nW pK S up gE d17=>?_
   replace ao:=ao.up up
   clear up d17
   refine S.k7 (α:=Int) ao gE.ak (fun _ _ h=>h) (by':=8) (d:=26) (lx:=acc.length) (ly:=1) rfl rfl (show _<=4194304 by simp only [List.length_append,List.length_cons,List.length_nil];omega) fun ac w N dg hq S up fU d22=>?_
   clear up d22
   refine S.ge 9 (.cons (cg (k:Int) 1) .nil) f8 fun ac w β S=>eT.of (h.mem.length-(k+1)) _ _ (by omega) ⟨k+1,(acc++[(k:Int)]),dg,hq,_,_,_,rfl,?_,?_,S.z,fU⟩
   ·exact cO
   ·clear S;(first|(rw [mq (by first|assumption|(simp [*];done)|(simp;omega)),bt];done)|(rw [mo (by first|assumption|(simp [*];done)|(simp;omega)),bt];done)|(rw [mq (by simp_all<;>fail),bt];done)|(rw [mo (by simp_all<;>fail),bt];done))
  refine S.ge 9 (.cons (cg (k:Int) 1) .nil) f8 fun ac w β S=>eT.of (h.mem.length-(k+1)) _ _ (by omega) ⟨k+1,acc,bL,cW,_,_,_,rfl,?_,?_,S.z,ao⟩
  ·exact cO
  ·clear S;(first|(rw [mq (by first|assumption|(simp [*];done)|(simp;omega)),bt];done)|(rw [mo (by first|assumption|(simp [*];done)|(simp;omega)),bt];done)|(rw [mq (by simp_all<;>fail),bt];done)|(rw [mo (by simp_all<;>fail),bt];done))
 refine S.bq 13 .nil [R acc.length bL.1] fun ac w β S=>?_
 exact cx S (show eg h=acc by clear S;(unfold eg;rw [bt,show h.mem.length=k by omega])) rfl ao
end Go.Proofs.YtjlocpdfcanlhaaGreat
