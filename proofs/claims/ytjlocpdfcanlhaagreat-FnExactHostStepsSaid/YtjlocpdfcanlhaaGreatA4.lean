/- A guest's steps in plain data. No program is named here. -/
import Derived.Test.YtjlocpdfcanlhaaGreatA3
import Derived.Test.YtjlocpdfcanlhaaGreatA1
import Derived.Test.YtjlocpdfcanlhaaGreatBits
namespace Go.Proofs.YtjlocpdfcanlhaaGreat
open Go
def bG (p:List da) (aw:Int):da:=if 0<=aw/\aw<p.length then el p aw.toNat else⟨7,0⟩
theorem l4 {K:Nat} {F:au} {w:World} {p:List da} {q:aD da} (h:GT.rd K F w p q) (aw:Int):je (bG p aw):=by
  unfold bG
  split
  · exact ae.el h aw.toNat (by omega)
  · exact⟨⟨by decide,by decide⟩,⟨by decide,by decide⟩⟩
def nT (g:ax):Bool:=lN g&&g.aN.e4&&decide (gr g.aC>=0)
theorem D2 {a b c d:Int} (h:((a==b)||(c==d))=true):a=b\/c=d:=by
  rcases (Bool.or_eq_true _ _).mp h with h|h
  · exact .inl (eq_of_beq h)
  · exact .inr (eq_of_beq h)
def D9 (o:Int):Int:=if o=3 then 3 else if o=4 then 4 else if o=5 then 5 else if o=6 then 6 else if o=7 then 7 else 2
def bY (g:ax):Int:=if lN g=false then 0 else if nT g=true then 1 else D9 (bG g.prog g.aw).eL
theorem uz (g:ax):0<=bY g/\bY g<=7:=by
  unfold bY D9
  repeat' split
  all_goals decide
def g7 (g:ax) (n:Int):ax:=if g.seen.length<40 then {g with seen:=g.seen++[n]} else g
def jt (g:ax):ax:=if nT g=true then g7 {g with aC:=(eK g.aC).1} (100+(eK g.aC).2.1) else g
theorem Wi (p:Int):-1<=(eK p).2.1/\(eK p).2.1<=64:=by
  have:=CV p
  unfold eK
  split
  · constructor<;>(simp only;omega)
  · constructor<;>(simp only;omega)
def II (g:ax) (i:da):ax:=
  if(0<=g.acc/\g.acc<=99)/\0<=i.x/\i.x<=99 then
    (if i.eL=1 then {a5 g with acc:=i.x} else if i.eL=2 then {a5 g with acc:=Int.tmod (g.acc+i.x) 100} else if i.eL=8/\g.acc=0 then {a5 g with aw:=i.x} else a5 g)
  else a5 g
def gx (g:ax):ax:=if bY g=2 then II g (bG g.prog g.aw) else g
def ia (g:ax) (v:Int):ax:=a5 (g7 {g with acc:=v} v)
def bn (g:ax):Int:=if bY g=3\/bY g=4 then(bG g.prog g.aw).x else-1
theorem j1 {K:Nat} {F:au} {w:World} {g:ax} {p:c5} (h:GT.rd K F w g p):a_ (bn g):=by
  unfold bn
  split
  · exact je.x (l4 (az.prog h) g.aw)
  · exact⟨by decide,by decide⟩
def dD (w:Bool):Int:=if w=true then 2 else 1
def gY (page:Int) (w:Bool):dg:=⟨1,page,w,0⟩
def mm (n:Int):dg:=⟨2,0,false,n⟩
def mq (n:Int):dg:=⟨3,0,false,n⟩
theorem Kr:a_ 0:=⟨by decide,by decide⟩
theorem IK {p:Int} (h:a_ p) (w:Bool):fL (gY p w):=⟨(show a_ 1 from⟨by decide,by decide⟩),h,Kr⟩
theorem Ql {n:Int} (h:a_ n):fL (mm n):=⟨(show a_ 2 from⟨by decide,by decide⟩),Kr,h⟩
theorem U0 {n:Int} (h:a_ n):fL (mq n):=⟨(show a_ 3 from⟨by decide,by decide⟩),Kr,h⟩
def hR (t k:Int):Bool:=a3 t 0 3&&decide (k=1\/k=2)&&(jK t k != 0)
def hT (outer inner k:Int):Int:=if hR inner k=true then 1 else if hR outer k=true then 2 else 0
def dS (x:ax) (aY want:Int):ax×Bool:=
  if want=6 then({x with exit:=mm (bG x.prog x.aw).x},false)
  else if want=5/\hR aY 1=true then({x with exit:=mq (bG x.prog x.aw).x},false)
  else if want=7/\hR aY 2=true then({x with exit:=⟨4,0,false,0⟩},false)
  else if want=7 then(jD x,true) else(a5 x,true)
def mv (x:ax) (want:Int):ax:=if want=5 then {x with exit:=mq (bG x.prog x.aw).x} else {x with exit:=⟨4,0,false,0⟩}
def fR (want:Int):Int:=if want=5 then 1 else 2
def ln (b:cP) (n:Int):cP:=if b.outs.length<40 then⟨b.mem,b.U,b.outs++[n],b.aC⟩ else b
def tp (x:ax) (want:Int):Int×Bool:=cW x.live (ct (bn x)) (dD (want==4))
def Ao (b:cP) (g:Int) (x:ax) (want:Int):cP:=
  if(tp x want).2=false then⟨b.mem,b.U.set g.toNat {x with exit:=gY (ct (bn x)) (want==4)},b.outs,b.aC⟩
  else if want=4 then⟨gh b.mem (tp x want).1 (ds (bn x)) x.acc,b.U.set g.toNat (a5 x),b.outs,b.aC⟩
  else⟨b.mem,b.U.set g.toNat (ia x (fI b.mem (tp x want).1 (ds (bn x)))),b.outs,b.aC⟩
def ph (b:cP) (x:ax) (want:Int):cP:=if(dS x x.aN.aY want).2=true/\want=5 then ln b (bG x.prog x.aw).x else b
def m3 (b:cP) (g:Int) (x:ax) (want:Int):cP:=
  if want=1 then⟨b.mem,b.U.set g.toNat (jt x),b.outs,b.aC⟩
  else if want=2 then⟨b.mem,b.U.set g.toNat (gx x),b.outs,b.aC⟩
  else if want=3\/want=4 then Ao b g x want
  else⟨(ph b x want).mem,(ph b x want).U.set g.toNat (dS x x.aN.aY want).1,(ph b x want).outs,(ph b x want).aC⟩
def eZ (b:cP) (g:Int):cP×Bool:=
  if jC b=true/\(0<=g/\g<b.U.length)/\¬bY (el b.U g.toNat)=0 then(m3 b g (el b.U g.toNat) (bY (el b.U g.toNat)),true) else(b,false)
theorem xx {b:cP} {g:Int} (e:jC b=false\/(a2 b g).2=false\/bY (a2 b g).1=0):eZ b g=(b,false):=by
  unfold eZ
  rw [if_neg]
  rintro⟨h1,an,aF⟩
  rcases e with e|e|e
  · rw [e] at h1;cases h1
  · unfold a2 at e;rw [if_pos an] at e;cases e
  · unfold a2 at e;rw [if_pos an] at e;exact aF e
theorem O6 {b:cP} {g:Int} (cu:jC b=true) (cB:(a2 b g).2=true) (fo:¬bY (a2 b g).1=0):eZ b g=(m3 b g (a2 b g).1 (bY (a2 b g).1),true):=by
  unfold a2 at cB fo ⊢
  split at cB
  · rename_i an
    rw [if_pos an] at fo ⊢
    unfold eZ
    rw [if_pos ⟨cu,an,fo⟩]
  · cases cB
theorem sZ {b:cP} {g:Int} (e:(a2 b g).2=true) (x:ax):gG b g x=⟨b.mem,b.U.set g.toNat x,b.outs,b.aC⟩:=by
  unfold a2 at e
  split at e
  · rename_i an;unfold gG;rw [if_pos an]
  · cases e
theorem Dq {b:cP} {g:Int} {x:ax} {want:Int} (e:want=1):m3 b g x want=⟨b.mem,b.U.set g.toNat (jt x),b.outs,b.aC⟩:=by subst e;rfl
theorem Dr {b:cP} {g:Int} {x:ax} {want:Int} (e:want=2):m3 b g x want=⟨b.mem,b.U.set g.toNat (gx x),b.outs,b.aC⟩:=by subst e;rfl
theorem Hz {b:cP} {g:Int} {x:ax} {want:Int} (e:want=3\/want=4):m3 b g x want=Ao b g x want:=by rcases e with e|e<;>subst e<;>rfl
theorem Ds {b:cP} {g:Int} {x:ax} {want:Int} (cu:¬want=1) (cB:¬want=2) (fo:¬want=3) (p8:¬want=4):
    m3 b g x want=⟨(ph b x want).mem,(ph b x want).U.set g.toNat (dS x x.aN.aY want).1,(ph b x want).outs,(ph b x want).aC⟩:=by
  unfold m3
  rw [if_neg cu,if_neg cB,if_neg (by omega)]
theorem lD {b lL:cP} {g:Int} (e:(a2 b g).2=true) (h:lL.U=b.U) (x:ax):gG lL g x=⟨lL.mem,lL.U.set g.toNat x,lL.outs,lL.aC⟩:=by
  unfold a2 at e
  split at e
  · rename_i an;unfold gG;rw [if_pos (by rw [h];exact an)]
  · cases e
theorem sO (b:cP) (n:Int):(ln b n).U=b.U:=by unfold ln;split<;>rfl
section
variable {b:cP} {g:Int} {x:ax} {want:Int}
theorem Lo (h:want=3\/want=4) (e:(cW x.live (ct (bn x)) (dD (want==4))).2=false):m3 b g x want=⟨b.mem,b.U.set g.toNat {x with exit:=gY (ct (bn x)) (want==4)},b.outs,b.aC⟩:=by
  rw [Hz h];unfold Ao;rw [if_pos (show(tp x want).2=false from e)]
theorem Lp (h:want=4) (e:(cW x.live (ct (bn x)) (dD (want==4))).2=true):m3 b g x want=⟨gh b.mem (cW x.live (ct (bn x)) (dD (want==4))).1 (ds (bn x)) x.acc,b.U.set g.toNat (a5 x),b.outs,b.aC⟩:=by
  rw [Hz (.inr h)];unfold Ao;rw [if_neg (show ¬(tp x want).2=false by rw [show(tp x want).2=true from e];exact fun h=>by cases h),if_pos h];rfl
theorem Ln (h:want=3) (e:(cW x.live (ct (bn x)) (dD (want==4))).2=true):m3 b g x want=⟨b.mem,b.U.set g.toNat (ia x (fI b.mem (cW x.live (ct (bn x)) (dD (want==4))).1 (ds (bn x)))),b.outs,b.aC⟩:=by
  rw [Hz (.inl h)];unfold Ao;rw [if_neg (show ¬(tp x want).2=false by rw [show(tp x want).2=true from e];exact fun h=>by cases h),if_neg (by omega)];rfl
theorem FH (h:want=6):m3 b g x want=⟨b.mem,b.U.set g.toNat {x with exit:=mm (bG x.prog x.aw).x},b.outs,b.aC⟩:=by
  subst h;rfl
theorem Mq (cY:want=5\/want=7) (e:hR x.aN.aY (fR want)=true):m3 b g x want=⟨b.mem,b.U.set g.toNat (mv x want),b.outs,b.aC⟩:=by
  rcases cY with h|h<;>subst h
  · have cu:dS x x.aN.aY 5=({x with exit:=mq (bG x.prog x.aw).x},false):=by
      unfold dS;rw [if_neg (by decide),if_pos ⟨rfl,e⟩]
    rw [Ds (by decide) (by decide) (by decide) (by decide)]
    unfold ph
    rw [cu,if_neg (by rintro⟨h,_⟩;cases h)]
    rfl
  · have cu:dS x x.aN.aY 7=({x with exit:=⟨4,0,false,0⟩},false):=by
      unfold dS;rw [if_neg (by decide),if_neg (by rintro⟨h,_⟩;cases h),if_pos ⟨rfl,e⟩]
    rw [Ds (by decide) (by decide) (by decide) (by decide)]
    unfold ph
    rw [cu,if_neg (by rintro⟨h,_⟩;cases h)]
    rfl
theorem Mp (h:want=5) (e:hR x.aN.aY (fR want)=false):m3 b g x want=⟨(ln b (bG x.prog x.aw).x).mem,(ln b (bG x.prog x.aw).x).U.set g.toNat (a5 x),(ln b (bG x.prog x.aw).x).outs,(ln b (bG x.prog x.aw).x).aC⟩:=by
  subst h
  have h9:hR x.aN.aY 1=false:=e
  have cu:dS x x.aN.aY 5=(a5 x,true):=by
    unfold dS;rw [if_neg (by decide),if_neg (by rw [h9];rintro⟨_,h⟩;cases h),if_neg (by rintro⟨h,_⟩;cases h),if_neg (by decide)]
  rw [Ds (by decide) (by decide) (by decide) (by decide)]
  unfold ph
  rw [cu,if_pos ⟨rfl,rfl⟩]
theorem Mn (h:want=7) (e:hR x.aN.aY (fR want)=false):m3 b g x want=⟨b.mem,b.U.set g.toNat (jD x),b.outs,b.aC⟩:=by
  subst h
  have h9:hR x.aN.aY 2=false:=e
  have cu:dS x x.aN.aY 7=(jD x,true):=by
    unfold dS;rw [if_neg (by decide),if_neg (by rintro⟨h,_⟩;cases h),if_neg (by rw [h9];rintro⟨_,h⟩;cases h),if_pos rfl]
  rw [Ds (by decide) (by decide) (by decide) (by decide)]
  unfold ph
  rw [cu,if_neg (by rintro⟨_,h⟩;cases h)]
end
end Go.Proofs.YtjlocpdfcanlhaaGreat
namespace Go.Proofs.YtjlocpdfcanlhaaGreat
open Go
def mr (h:ah) (m g:Int):Bool:=eJ h&&a3 m 0 ((h.I.length:Int)-1)&&a3 g 0 (((el h.I m.toNat).U.length:Int)-1)
theorem NU {h:ah} {m g:Int} (e:mr h m g=true):eJ h=true/\(0<=m/\m<h.I.length)/\0<=g/\g<(el h.I m.toNat).U.length:=by
  simp only [mr,Bool.and_eq_true] at e
  have h1:=cV e.1.2
  have an:=cV e.2
  exact⟨e.1.1,by omega,by omega⟩
def qc (h:ah) (m g:Int) (x:ax):ah:=⟨h.mem,h.I.set m.toNat {el h.I m.toNat with U:=(el h.I m.toNat).U.set g.toNat x},h.buf,h.ag⟩
def mn (h:ah) (m g:Int) (x:ax) (wr:Bool):ah×Int×Bool:=cN h m g (ct (bn x)) (dD wr) false
def mu (h:ah) (m g:Int) (x:ax) (wr:Bool):ah:=
  if(mn h m g x wr).2.2=false then qc (mn h m g x wr).1 m g {x with exit:=gY (ct (bn x)) wr}
  else if wr=true then qc ⟨gh (mn h m g x wr).1.mem (mn h m g x wr).2.1 (ds (bn x)) x.acc,(mn h m g x wr).1.I,(mn h m g x wr).1.buf,(mn h m g x wr).1.ag⟩ m g (a5 x)
  else qc (mn h m g x wr).1 m g (ia x (fI (mn h m g x wr).1.mem (mn h m g x wr).2.1 (ds (bn x))))
def gq (x:aO) (y:ax) (want:Int):Int:=if(¬want=6/\hT x.aY y.aN.aY (fR want)=2)/\x.owned<1000000000 then x.owned+1 else x.owned
def ll (x:aO) (y:ax) (want:Int):List Int:=if((dS y y.aN.aY want).2=true/\want=5)/\x.outs.length<40 then x.outs++[(bG y.prog y.aw).x] else x.outs
def ju (x:aO) (g:Int) (y:ax) (want:Int):aO:={x with U:=x.U.set g.toNat (dS y y.aN.aY want).1,outs:=ll x y want,owned:=gq x y want}
def tn (h:ah) (m:Int) (x:aO):ah:=⟨h.mem,h.I.set m.toNat x,h.buf,h.ag⟩
def r5 (h:ah) (m g:Int) (x:ax) (want:Int):ah:=
  if want=1 then qc h m g (jt x)
  else if want=2 then qc h m g (gx x)
  else if want=3\/want=4 then mu h m g x (want==4)
  else tn h m (ju (el h.I m.toNat) g x want)
def dN (h:ah) (m g:Int):ah×Bool:=
  if mr h m g=true/\¬bY (el (el h.I m.toNat).U g.toNat)=0 then
    (r5 h m g (el (el h.I m.toNat).U g.toNat) (bY (el (el h.I m.toNat).U g.toNat)),true)
  else(h,false)
theorem oF {h:ah} {m g:Int} (e:mr h m g=false\/bY (el (el h.I m.toNat).U g.toNat)=0):dN h m g=(h,false):=by
  unfold dN
  rw [if_neg]
  rintro⟨h1,an⟩
  rcases e with e|e
  · rw [e] at h1;cases h1
  · exact an e
theorem qk {h:ah} {m g:Int} (e:mr h m g=true) (cB:¬bY (el (el h.I m.toNat).U g.toNat)=0):dN h m g=(r5 h m g (el (el h.I m.toNat).U g.toNat) (bY (el (el h.I m.toNat).U g.toNat)),true):=by
  unfold dN
  rw [if_pos ⟨e,cB⟩]
section
variable {h:ah} {m g:Int} {x:ax} {want:Int}
theorem Kd (e:want=1):r5 h m g x want=qc h m g (jt x):=by subst e;rfl
theorem Ke (e:want=2):r5 h m g x want=qc h m g (gx x):=by subst e;rfl
theorem EH (e:want=3\/want=4):r5 h m g x want=mu h m g x (want==4):=by rcases e with e|e<;>subst e<;>rfl
theorem EI (cu:¬want=1) (cB:¬want=2) (fo:¬want=3) (p8:¬want=4):r5 h m g x want=tn h m (ju (el h.I m.toNat) g x want):=by
  unfold r5
  rw [if_neg cu,if_neg cB,if_neg (by omega)]
end
theorem Ll {h Y:ah} {m g page need:Int} {io:Bool} (hY:Y=(cN h m g page need io).1) (e:mr h m g=true):(0<=m/\m<Y.I.length)/\0<=g/\g<(el Y.I m.toNat).U.length:=by
  obtain⟨h1,an,aF⟩:=NU e
  subst hY
  unfold cN
  split
  · rename_i hk
    have hw:(cW (el (el h.I m.toNat).U g.toNat).live page need).2=true:=by
      simp only [tm,Bool.and_eq_true] at hk;exact hk.2
    have bC:=(uy hw h1 an aF).1
    have hd:=Ai (need:=need) rfl bC
    have hm:=Lq (need:=need) rfl hd.1
    show(0<=m/\m<(m8 (kd h m (vb h m g page need) need) m g page need (vb h m g page need) io).1.I.length)/\0<=g/\g<(el (m8 (kd h m (vb h m g page need) need) m g page need (vb h m g page need) io).1.I m.toNat).U.length
    change _/\_ at hd
    unfold vb
    generalize (cW (el (el h.I m.toNat).U g.toNat).live page need).1=q at*
    generalize kd h m q need=y at*
    have put:∀(z:ah) (e:aH),(x4 z io e).I=z.I:=fun z e=>by unfold x4;split<;>rfl
    unfold m8
    split
    · show(0<=m/\m<y.I.length)/\0<=g/\g<(el y.I m.toNat).U.length
      exact⟨by omega,by omega⟩
    · split
      · unfold r6
        simp only [put]
        unfold D6 kh
        simp only [List.length_set]
        rw [dW (show m.toNat<(gp y m q need).I.length by omega)]
        simp only
        exact⟨by omega,by omega⟩
      · unfold r6
        simp only [put]
        exact⟨by omega,by omega⟩
  · exact⟨an,aF⟩
def ef (h:ah) (m:Int) (order:List Int):ah×List Bool:=order.foldl (fun s g=>((dN s.1 m g).1,s.2++[(dN s.1 m g).2])) (h,[])
theorem Wa {h:ah} {m:Int} {order:List Int} {k:Nat} {Y:ah} {acc:List Bool} (hk:k<order.length) (h1:(Y,acc)=ef h m (order.take k)):((dN Y m (el order k)).1,acc++[(dN Y m (el order k)).2])=ef h m (order.take (k+1)):=by
  unfold ef at h1 ⊢
  rw [jb hk,List.foldl_append,←h1]
  rfl
theorem Gs {h:ah} {m:Int} {order:List Int} {k:Nat} {Y:ah} {acc:List Bool} (hk:order.length<=k) (h1:(Y,acc)=ef h m (order.take k)):ef h m order=(Y,acc):=by
  rw [ff hk] at h1;exact h1.symm
end Go.Proofs.YtjlocpdfcanlhaaGreat
namespace Go.Proofs.YtjlocpdfcanlhaaGreat
open Go
set_option linter.unusedVariables false
def One (p:mh):au:=fun b=>p.nil=false/\b=p.b
theorem one_sub {K:Nat} {F:au} {w:World} {xs:List Int} {p:aD Int} (h:GT.own K F w xs p):∀b,One p.1 b->F b:=fun b ⟨z,e⟩=>e▸((show g4 K F w xs p from h).row z).1
theorem aix {K:Nat} {F:au} {w:World} {xs:List Int} {p:aD Int} (h:GT.own K F w xs p):GT.own K (One p.1) w xs p:=by
  have h:g4 K F w xs p:=h
  obtain⟨G,cn,_,_⟩:=h.el
  exact(⟨h.le,h.cap,h.pe,h.null,fun z=>⟨⟨z,rfl⟩,(h.row z).2⟩,h.cell,fun _=>ab,fun i hi=>(cn i hi:a_ _),fun _ _ _ hb=>False.elim hb,fun _ _ _ _ _ _ hb=>False.elim hb⟩:g4 K (One p.1) w xs p)
theorem aiw {K:Nat} {N bU:au} {u w':World} {xs bl:List Int} {p r:aD Int} (h:GT.own K (One p.1) u xs p) (hN:∀b,One p.1 b->N b) (cl:GT.own K bU w' (xs++bl) r) (e:r.1=p.1\/∀b,N b->w'.heap[b]? =u.heap[b]?):GT.own K (One p.1) w' xs p:=by
  rcases e with e|e
  · have h:g4 K (One p.1) u xs p:=h
    have cl:g4 K bU w' (xs++bl) r:=cl
    obtain⟨G,cn,_,_⟩:=h.el
    refine(⟨h.le,h.cap,h.pe,h.null,fun z=>⟨⟨z,rfl⟩,?_⟩,fun i hi=>?_,fun _=>ab,fun i hi=>(cn i hi:a_ _),fun _ _ _ hb=>False.elim hb,fun _ _ _ _ _ _ hb=>False.elim hb⟩:g4 K (One p.1) w' xs p)
    · have:=(cl.row (by rw [e];exact z)).2
      rw [e] at this
      exact this
    · have h1:=cl.cell i (by rw [List.length_append];omega)
      rw [e] at h1
      rw [show el (xs++bl) i=el xs i from by unfold el;simp only [List.getD_eq_getElem?_getD,List.getElem?_append_left hi]] at h1
      exact h1
  · exact GT.b8 h fun b hb _=>e b (hN b hb)
section
variable {P:Program} {n:Nat} {w0:World} {M:au} {u:World} {N:au} {β:Nat->Nat} {a:Act} {w:World} {Q:Exit->Act->World->Prop}
theorem Uk {K:Nat} {G Fy:au} {bI:World} {x:aO} {p:ft} {l:List Int} {q:aD Int} (h:GT.own K G u x p) (hl:GT.own K Fy bI l q) (cO:∀b,G b->N b) (hu:∀b,N b->¬One p.outs.1 b->bI.heap[b]? =u.heap[b]?) (mx:∀H:au,J H (One p.outs.1)->(∀b,H b->N b)->J H Fy):
    ∃gO,GT.own K gO bI ({x with outs:=l}:aO) {p with outs:=q}/\∀b,gO b->G b\/(Fy b/\¬N b):=by
  obtain⟨cH,cF,cU,c1,eI,eX,dx,cn,a8,b7,cC,dJ,s,f0,f1,f2⟩:=h
  have bN:=one_sub cC
  have d0:J cH eI:=cz s.cr (i:=0) (j:=4) (by decide) rfl rfl
  have d1:J cF eI:=cz s.cr (i:=1) (j:=4) (by decide) rfl rfl
  have d2:J cU eI:=cz s.cr (i:=2) (j:=4) (by decide) rfl rfl
  have d3:J c1 eI:=cz s.cr (i:=3) (j:=4) (by decide) rfl rfl
  have d5:J eX eI:=(cz s.cr (i:=4) (j:=5) (by decide) rfl rfl).symm
  have gd:=s.sub cH (by simp)
  have s1:=s.sub cF (by simp)
  have s2:=s.sub cU (by simp)
  have nC:=s.sub c1 (by simp)
  have CH:=s.sub eI (by simp)
  have ze:=s.sub eX (by simp)
  have By:∀H:au,J H eI->(∀b,H b->G b)->J H Fy/\∀b,H b->bI.heap[b]? =u.heap[b]? :=fun H Qw V0=>
    ⟨mx H (fun b hb h1=>Qw b hb (bN b h1)) (fun b hb=>cO b (V0 b hb)),fun b hb=>hu b (cO b (V0 b hb)) fun h1=>Qw b hb (bN b h1)⟩
  obtain⟨iy,Hw⟩:=By cH d0 gd
  obtain⟨cu,mV⟩:=By cF d1 s1
  obtain⟨cB,lf⟩:=By cU d2 s2
  obtain⟨fo,Xq⟩:=By c1 d3 nC
  obtain⟨xT,Xr⟩:=By eX d5 ze
  have adH:∀b,Fy b->G b\/(Fy b/\¬N b):=fun b hb=>by
    by_cases hN:N b
    · refine .inl (CH b (bN b ?_))
      refine Classical.byContradiction fun cY=>mx (fun c=>c=b) (fun c hc h1=>cY (hc▸h1)) (fun c hc=>hc▸hN) b rfl hb
    · exact .inr ⟨hb,hN⟩
  refine⟨fun b=>G b\/Fy b,⟨cH,cF,cU,c1,Fy,eX,GT.b8 dx fun b hb _=>Hw b hb,GT.b8 cn fun b hb _=>mV b hb,GT.b8 a8 fun b hb _=>lf b hb,GT.b8 b7 fun b hb _=>Xq b hb,hl,GT.b8 dJ fun b hb _=>Xr b hb,⟨fun H bE b hb=>?_,?_⟩,f0,f1,f2⟩,fun b hb=>hb.elim .inl (adH b)⟩
  · simp only [List.mem_cons,List.not_mem_nil,or_false] at bE
    rcases bE with rfl|rfl|rfl|rfl|rfl|rfl
    · exact .inl (gd b hb)
    · exact .inl (s1 b hb)
    · exact .inl (s2 b hb)
    · exact .inl (nC b hb)
    · exact .inr hb
    · exact .inl (ze b hb)
  · have:=s.cr
    simp only [List.pairwise_cons,List.mem_cons,List.not_mem_nil,or_false,forall_eq_or_imp,forall_eq,false_imp_iff,implies_true,and_true,List.Pairwise.nil] at this ⊢
    obtain⟨⟨ak5,GB,Ws,aq2,ald⟩,⟨alo,alr,aq5,als⟩,⟨alv,arj,alz⟩,⟨v4,akU⟩,t5⟩:=this
    exact⟨⟨ak5,GB,Ws,iy,ald⟩,⟨alo,alr,cu,als⟩,⟨alv,cB,alz⟩,⟨fo,akU⟩,xT.symm⟩
theorem aj.Hx {σ:b3} {ops:Array Oper} {dh:Act->World->Prop} {i:Nat} (S:aj P n w0 M u N β σ a w) {xs:List aO} {p:aD aO} {F:au} (o:ad w0 M u N F xs p) {bl:List Int} {q:aD Int} (k:Nat) (hy:s8 u N bl q) {by' lx ly:Nat} {d:Tmp} (hk:k<xs.length) (hl:(el xs k).outs.length+bl.length<=b6)
    (K:∀a1 w' aB r Fy,aj P n w0 M w' aB β ⟨(d,.v (R ((el xs k).outs++bl).length r.1))::σ.env,σ.aM⟩ a1 w'->(∀b,N b->¬F b->aB b/\w'.heap[b]? =u.heap[b]?)->ad w0 M w' aB F xs p->s8 w' aB ((el xs k).outs++bl) r->
      (∀G,GT.own b6 G w' (el xs k) (p.2 k)->(∀b,G b->F b)->∃gO,GT.own b6 gO w' ({el xs k with outs:=(el xs k).outs++bl}:aO) {p.2 k with outs:=r}/\∀b,gO b->G b\/Fy b)->(∀G:au,(∀b,G b->N b)->J G Fy)->(∀b,Fy b->aB b)->(∀b,Fy b->w0.heap.size<=b\/M b)->
      dh a1 w')
    (hlx:lx=(el xs k).outs.length:=by rfl) (hly:ly=bl.length:=by rfl) (hop:rT P n ops i σ=some (R lx (p.2 k).outs.1,R ly q.1,1,by',d):=by kernel_rfl):wpOp P ops Q i dh a w:=by
  subst hlx hly
  have bN:g4 b6 F u xs p:=o.own
  obtain⟨G,cn,a8,b7⟩:=bN.el
  have qj:p.1.nil=false:=bN.BK (Nat.lt_of_lt_of_le (Nat.lt_of_le_of_lt (Nat.zero_le _) hk) bN.cap)
  obtain⟨yr,mA⟩:=bN.row qj
  have RD:=cn k hk
  have ac0:=RD
  obtain⟨cH,cF,cU,c1,eI,eX,_,_,_,_,cC,_,s,_,_,_⟩:=ac0
  have h1:∀b,One (p.2 k).outs.1 b->G k b:=fun b hb=>s.sub eI (by simp) b (one_sub cC b hb)
  have I9:∀b,One (p.2 k).outs.1 b->F b:=fun b hb=>(a8 k hk b (h1 b hb)).1
  have tY:ad w0 M u N (One (p.2 k).outs.1) (el xs k).outs (p.2 k).outs:=⟨aix cC,fun b hb=>o.sub b (I9 b hb),fun b hb=>o.dM b (I9 b hb)⟩
  refine aj.append S tY hy (Fy:=ab) ⟨fun _=>ab,fun i hi=>(ae.el hy i hi:a_ _),fun _ _ b h=>False.elim h,fun _ _ _ _ _ b h=>False.elim h⟩ (fun b _ h=>False.elim h) (fun b h=>False.elim h) (fun b h=>False.elim h) hop hl fun a1 w' aB r bU an aF b1 bm cS=>?_
  obtain⟨aem,_,he⟩:=cS
  have aeS:=aiw tY.own tY.sub b1.own he
  have Kj:∀b,N b->¬One (p.2 k).outs.1 b->w'.heap[b]? =u.heap[b]? :=fun b hb cY=>(aF b hb cY).2
  have mx:∀H:au,J H (One (p.2 k).outs.1)->(∀b,H b->N b)->J H bU:=fun H d1 d2=>bm H d1 (fun b _ h=>False.elim h) d2
  have Jw:∀b,One (p.2 k).outs.1 b->b≠p.1.b:=fun b hb=>(a8 k hk b (h1 b hb)).2
  have cO:∀i,i<xs.length->∀b,G i b->N b:=fun i hi b hb=>o.sub b (a8 i hi b hb).1
  have hold:ad w0 M w' aB F xs p:=by
    refine⟨?_,fun b hb=>aem b (o.sub b hb),o.dM⟩
    have ay:w'.heap[p.1.b]? =u.heap[p.1.b]? :=Kj _ (o.sub _ yr) fun hb=>Jw _ hb rfl
    refine(⟨bN.le,bN.cap,bN.pe,bN.null,fun z=>?_,fun i hi=>(bN.cell i hi).uQ ay,fun i=>if i=k then(fun b=>G k b\/(One (p.2 k).outs.1 b/\¬N b)) else G i,fun i hi=>?_,fun i hi b hb=>?_,fun i j hi bZ kH=>?_⟩:g4 b6 F w' xs p)
    · obtain⟨h1,cs,T,an,aF⟩:=bN.row z
      exact⟨h1,cs,T,ay.trans an,aF⟩
    · by_cases e:i=k
      · subst e
        simp only [if_true]
        obtain⟨gO,cu,cB⟩:=Uk (x:=el xs i) (p:=p.2 i) RD aeS (cO i hk) Kj (fun H d1 _=>d1)
        exact GT.fO cu (Nat.le_refl _) cB
      · simp only [e,if_false]
        exact GT.b8 (cn i hi) fun b hb _=>Kj b (cO i hi b hb) fun eU=>b7 i k hi hk e b hb (h1 b eU)
    · by_cases e:i=k
      · subst e
        simp only [if_true] at hb
        rcases hb with hb|hb
        · exact a8 i hi b hb
        · exact absurd (tY.sub b hb.1) hb.2
      · simp only [e,if_false] at hb
        exact a8 i hi b hb
    · intro b hb eU
      have fix:∀i,i<xs.length->(if i=k then(fun b=>G k b\/(One (p.2 k).outs.1 b/\¬N b)) else G i) b->G i b:=fun i hi hb=>by
        by_cases e:i=k
        · subst e
          simp only [if_true] at hb
          exact hb.elim id fun hb=>absurd (tY.sub b hb.1) hb.2
        · simp only [e,if_false] at hb
          exact hb
      exact b7 i j hi bZ kH b (fix i hi hb) (fix j bZ eU)
  refine K a1 w' aB r (fun b=>bU b/\¬N b) (by rw [List.length_append];exact an) (fun b hb cY=>aF b hb fun h=>cY (I9 b h)) hold b1.ak (fun H bE hs=>?_) (fun H hs b hb h=>h.2 (hs b hb)) (fun b hb=>b1.sub b hb.1) (fun b hb=>b1.dM b hb.1)
  exact Uk (u:=w') bE b1.own (fun b hb=>o.sub b (hs b hb)) (fun _ _ _=>rfl) mx
def Hr {α:Type} [GT α] (F:au) (p:aD α) (w:World) (w7:List α) (e:Ending) (w':World):Prop:=
  ∃(cx:Nat->GT.Ptr α) (bU:au),e= .returned (packed [])/\bB F w w'/\GT.own b6 bU w' w7 ((p.1,cx):aD α)/\(∀b,bU b->F b\/(w.heap.size<=b/\b<w'.heap.size))
theorem aj.Xa {α:Type} [GT α] {bT:dq} {F:au} {xs w7:List α} {p:aD α} (S:aj P n w0 M u N β bT.σ a w) (o:ad w0 M u N F xs p) {f:FuncId} {eN:List Value} {d:Tmp} (hc:Calls P f eN.toArray w (Hr F p w w7))
    (K:∀lf w' aB cx bU,aj P n w0 M w' aB β (bT.put d (packed [])).σ lf w'->(∀b,N b->¬F b->aB b/\w'.heap[b]? =u.heap[b]?)->ad w0 M w' aB bU w7 ((p.1,cx):aD α)->(∀G:au,J G F->(∀b,G b->N b)->J G bU)->dZ P Q (bT.put d (packed [])) lf w')
    (hcall:kz P n bT.cG.opsOf bT.cG.idx bT.σ=some (f,eN,d):=by kernel_rfl) (hd:Nat.blt d n=true:=by kernel_rfl) (cb:bT.cG.kJ=true:=by kernel_rfl):dZ P Q bT a w:=
  ⟨lo (S.call hcall hc fun _ w' ⟨cx,bU,he,fp,bN,bc⟩=>⟨_,he,(K _ w' _ cx bU ((S.qQ fp o.sub o.dM).put (wq hd) (fun _ _ e=>by cases e)) (S.bk fp)
    ⟨bN,fun b h=>(bc b h).elim (fun h=> .inl (o.sub b h)) .inr,fun b h=>(bc b h).elim (o.dM b) (fun h=> .inl (Nat.le_trans S.fu.size h.1))⟩
    (fun G cn a8 b h1 an=>(bc b an).elim (cn b h1) (fun h=>by have:=(S.sep b (a8 b h1)).1;omega))).ok⟩) cb⟩
theorem Nu {α:Type} [GT α] {σ:b3} {F bU:au} {w7 x:List α} {p:aD α} {cx:Nat->GT.Ptr α} (S:aj P n w0 F u N β σ a w) (h:w7=x) (o:ad w0 F u N bU x ((p.1,cx):aD α)):Hr F p w0 w7 (.returned (packed [])) w:=by
  subst h
  exact⟨cx,bU,rfl,S.fu,GT.b8 o.own (fun b hb _=>(S.sep b (o.sub b hb)).2.1),fun b hb=>(o.dM b hb).elim (fun h=> .inr ⟨h,(S.sep b (o.sub b hb)).1⟩) .inl⟩
end
end Go.Proofs.YtjlocpdfcanlhaaGreat
namespace Go.Proofs.YtjlocpdfcanlhaaGreat
open Go
set_option linter.unusedVariables false
theorem V5 {xs:List aO} {k:Nat} (hk:k<xs.length):xs.set k ({el xs k with owned:=(el xs k).owned}:aO)=xs:=by
  show xs.set k (el xs k)=xs
  rw [p_ hk,List.set_getElem_self]
theorem aiR {o i k:Int} (h:hT o i k=1):hR i k=true:=by
  unfold hT at h
  split at h
  · assumption
  · split at h<;>omega
theorem U_ {o i k:Int} (h:¬hT o i k=1):hR i k=false:=by
  unfold hT at h
  split at h
  · exact absurd rfl h
  · rename_i h1;simpa using h1
variable {m:aO} {y:ax} {want:Int}
theorem aiN (hw:want=5\/want=7) (h:hT m.aY y.aN.aY (fR want)=2) (an:m.owned<1000000000):gq m y want=m.owned+1:=by
  unfold gq;rw [if_pos ⟨⟨by omega,h⟩,an⟩]
theorem Mw (h:¬hT m.aY y.aN.aY (fR want)=2\/¬m.owned<1000000000):gq m y want=m.owned:=by
  unfold gq;rw [if_neg (fun h1=>h.elim (fun h=>h h1.1.2) (fun h=>h h1.2))]
theorem akQ (hw:want=5\/want=7) (h:hR y.aN.aY (fR want)=true):dS y y.aN.aY want=(mv y want,false):=by
  rcases hw with e|e<;>subst e
  · have h:hR y.aN.aY 1=true:=h
    unfold dS mv;rw [if_neg (by decide),if_pos ⟨rfl,h⟩,if_pos rfl]
  · have h:hR y.aN.aY 2=true:=h
    unfold dS mv;rw [if_neg (by decide),if_neg (by rintro⟨h,-⟩;exact absurd h (by decide)),if_pos ⟨rfl,h⟩,if_neg (by decide)]
theorem Wm (hw:want=5\/want=7) (h:hR y.aN.aY (fR want)=false):dS y y.aN.aY want=(if want=7 then jD y else a5 y,true):=by
  rcases hw with e|e<;>subst e
  · have h:hR y.aN.aY 1=false:=h
    unfold dS;rw [if_neg (by decide),if_neg (by rw [h];simp),if_neg (by rintro⟨h,-⟩;exact absurd h (by decide)),if_neg (by decide),if_neg (by decide)]
  · have h:hR y.aN.aY 2=false:=h
    unfold dS;rw [if_neg (by decide),if_neg (by rintro⟨h,-⟩;exact absurd h (by decide)),if_neg (by rw [h];simp),if_pos rfl,if_pos rfl]
theorem agD {xs:List aO} {k:Nat} {g:Int} (hw:want=5\/want=7) (h:hT m.aY y.aN.aY (fR want)=1):xs.set k (ju m g y want)=xs.set k ({m with U:=m.U.set g.toNat (mv y want)}:aO):=by
  unfold ju ll
  rw [akQ hw (aiR h),Mw (.inl (by omega)),if_neg (fun h=>by have:=h.1.1;cases this)]
theorem agB {xs X:List aO} {k:Nat} {g gu:Int} (fT:X=xs.set k ({el xs k with owned:=gu}:aO)) (he:el X k=({el xs k with owned:=gu}:aO)) (bN:gu=gq (el xs k) y want) (h:¬hT (el xs k).aY y.aN.aY (fR want)=1) (hw:want=7):
    xs.set k (ju (el xs k) g y want)=X.set k ({el X k with U:=(el X k).U.set g.toNat (jD y)}:aO):=by
  rw [he,fT,List.set_set]
  unfold ju ll
  rw [Wm (.inr hw) (U_ h),←bN,if_pos hw,if_neg (fun h=>by have:=h.1.2;omega)]
theorem agC {xs X:List aO} {k:Nat} {g gu:Int} {os:List Int} (fT:X=xs.set k ({el xs k with owned:=gu,outs:=os}:aO)) (he:el X k=({el xs k with owned:=gu,outs:=os}:aO)) (bN:gu=gq (el xs k) y want) (h:¬hT (el xs k).aY y.aN.aY (fR want)=1) (hw:want=5)
    (Kc:os=if(el xs k).outs.length<40 then(el xs k).outs++[(bG y.prog y.aw).x] else(el xs k).outs):
    xs.set k (ju (el xs k) g y want)=X.set k ({el X k with U:=(el X k).U.set g.toNat (a5 y)}:aO):=by
  rw [he,fT,List.set_set]
  unfold ju ll
  rw [Wm (.inl hw) (U_ h),←bN,if_neg (by omega)]
  have e:(if((true=true/\want=5)/\(el xs k).outs.length<40) then(el xs k).outs++[(bG y.prog y.aw).x] else(el xs k).outs)=os:=by
    rw [Kc]
    by_cases h:(el xs k).outs.length<40
    · rw [if_pos h,if_pos ⟨⟨rfl,hw⟩,h⟩]
    · rw [if_neg h,if_neg (fun h1=>h h1.2)]
  simp only at e ⊢
  rw [e]
theorem kn {w0 u:World} {M N F:au} {X xs:List aO} {lz:mh} {iK:Nat->ft} {k g:Nat} {hf:ft} (o:ad w0 M u N F X ((lz,iK):aD aO)) (he:(el X k).U=(el xs k).U) (bC:(iK k).U=hf.U) (hk:k<X.length) (aJ:g<(el xs k).U.length):
    GT.rd b6 N u (el (el xs k).U g) (hf.U.2 g):=by
  have h1:GT.rd b6 N u (el X k).U (iK k).U:=aU.U (d:=el X k) (ae.el o.ak k hk)
  rw [he,bC] at h1
  exact ae.el h1 g aJ
section
variable {h:ah} {m g:Int}
theorem EK (e:eJ h=false):dN h m g=(h,false):=oF (.inl (by unfold mr;rw [e];rfl))
theorem akZ {x a b:Int} (e:¬(a<=x/\x<=b)):a3 x a b=false:=by
  cases h:a3 x a b with
  |false=>rfl
  |true=>exact absurd (cV h) e
theorem EL (e:(aK h m).2=false):dN h m g=(h,false):=by
  have h1:=Uj e
  refine oF (.inl ?_)
  unfold mr
  rw [akZ (fun an=>h1 (by omega)),Bool.and_false,Bool.false_and]
theorem EM (cB:(aK h m).2=true) (e:a3 g 0 (((aK h m).1.U.length:Int)-1)=false):dN h m g=(h,false):=by
  rw [wu (tQ cB)] at e
  refine oF (.inl ?_)
  unfold mr
  rw [e,Bool.and_false]
theorem EN (cB:(aK h m).2=true) (e:bY (el (aK h m).1.U g.toNat)=0):dN h m g=(h,false):=by
  rw [wu (tQ cB)] at e
  exact oF (.inr e)
theorem EO (cu:eJ h=true) (cB:(aK h m).2=true) (fo:a3 g 0 (((aK h m).1.U.length:Int)-1)=true):mr h m g=true:=by
  have h1:=tQ cB
  rw [wu h1] at fo
  unfold mr
  rw [cu,fo,show a3 m 0 ((h.I.length:Int)-1)=true from by unfold a3;simp;omega]
  rfl
theorem yK (cu:eJ h=true) (cB:(aK h m).2=true) (fo:a3 g 0 (((aK h m).1.U.length:Int)-1)=true) (p8:¬bY (el (aK h m).1.U g.toNat)=0):
    dN h m g=(r5 h m g (el (aK h m).1.U g.toNat) (bY (el (aK h m).1.U g.toNat)),true):=by
  have h1:=EO cu cB fo
  rw [wu (tQ cB)] at p8 ⊢
  exact qk h1 p8
theorem Th (cu:eJ h=true) (cB:(aK h m).2=true) (fo:a3 g 0 (((aK h m).1.U.length:Int)-1)=true) (hw:bY (el (aK h m).1.U g.toNat)=5\/bY (el (aK h m).1.U g.toNat)=7):
    dN h m g=(⟨h.mem,h.I.set m.toNat (ju (el h.I m.toNat) g (el (el h.I m.toNat).U g.toNat) (bY (el (aK h m).1.U g.toNat))),h.buf,h.ag⟩,true):=by
  rw [yK cu cB fo (by omega),EI (by omega) (by omega) (by omega) (by omega)]
  rw [wu (tQ cB)]
  rfl
theorem Gk (hm:0<=m/\m<h.I.length):(fk h m).U=(el h.I m.toNat).U:=by unfold fk;rw [if_pos hm]
theorem Tg (cu:eJ h=true) (cB:(aK h m).2=true) (fo:a3 g 0 (((aK h m).1.U.length:Int)-1)=true) (hw:bY (el (aK h m).1.U g.toNat)=1\/bY (el (aK h m).1.U g.toNat)=2\/bY (el (aK h m).1.U g.toNat)=6):
    dN h m g=(⟨h.mem,h.I.set m.toNat ({el h.I m.toNat with U:=(eZ (fk h m) g).1.U}:aO),h.buf,h.ag⟩,true):=by
  have hm:=tQ cB
  have aJ:=(NU (EO cu cB fo)).2.2
  rw [yK cu cB fo (by omega)]
  rw [wu hm] at hw ⊢
  have abk:eZ (fk h m) g=(m3 (fk h m) g (el (el h.I m.toNat).U g.toNat) (bY (el (el h.I m.toNat).U g.toNat)),true):=by
    unfold eZ
    rw [Gk hm,if_pos ⟨ako cu hm,aJ,by omega⟩]
  rw [abk]
  rcases hw with hw|hw|hw
  · rw [Kd hw,Dq hw,Gk hm];rfl
  · rw [Ke hw,Dr hw,Gk hm];rfl
  · rw [EI (by omega) (by omega) (by omega) (by omega),FH hw,Gk hm]
    unfold tn ju dS ll gq
    rw [if_pos hw,if_neg (fun h=>by omega),if_neg (fun h=>h.1.1 hw)]
end
end Go.Proofs.YtjlocpdfcanlhaaGreat
namespace Go.Proofs.YtjlocpdfcanlhaaGreat
open Go
set_option linter.unusedVariables false
def GE (h cl:ah):Prop:=cl.I.length=h.I.length/\∀k,(el cl.I k).U=(el h.I k).U
theorem GE.g3 (h:ah):GE h h:=⟨rfl,fun _=>rfl⟩
theorem GE.iP {a b c:ah} (h:GE a b) (cl:GE b c):GE a c:=⟨cl.1.trans h.1,fun k=>(cl.2 k).trans (h.2 k)⟩
theorem QT (xs:List aO) (i k:Nat) (x:aO) (e:x.U=(el xs i).U):(el (xs.set i x) k).U=(el xs k).U:=by
  by_cases hi:i<xs.length
  · rw [Iy _ _ _ _ hi];split
    · rename_i h;subst h;exact e
    · rfl
  · rw [List.set_eq_of_length_le (by omega)]
theorem GE.m (h:ah) (m:Nat) (x:aO) (a:List (List Int)) (b c:List aH) (e:x.U=(el h.I m).U):GE h ⟨a,h.I.set m x,b,c⟩:=⟨List.length_set,fun k=>QT _ _ _ _ e⟩
theorem GE.CN {a h:ah} (g:GE a h) (m:Int) (x:aO) (e:x.U=(el h.I m.toNat).U):GE a (kh h m x):=g.iP (GE.m _ _ _ _ _ _ e)
theorem GE.slot {a h:ah} (g:GE a h) (m page:Int) (s:aR):GE a (gP h m page s):=g.iP (GE.m _ _ _ _ _ _ rfl)
theorem GE.send (h:ah) (m page:Int):GE h (iA h m page):=by unfold iA;exact GE.slot (GE.CN (GE.g3 h) _ _ (by rfl)) _ _ _
theorem GE.put (h:ah) (m page:Int):GE h (pj h m page):=by
  unfold pj;refine GE.slot ?_ _ _ _;exact GE.m _ _ _ _ _ _ rfl
theorem GE.room (h:ah):GE h (kg h):=by
  unfold kg;split
  · exact GE.g3 _
  · exact GE.send _ _ _
theorem GE.mid (h:ah) (m page:Int):GE h (hB h m page):=by
  unfold hB;split
  · exact(GE.room h).iP (GE.put _ _ _)
  · exact GE.g3 _
theorem GE.wr (h:ah) (m page:Int):GE h (q0 h m page):=by
  unfold q0;split
  · exact GE.CN (GE.g3 h) _ _ (by rfl)
  · exact GE.slot (GE.CN (GE.g3 h) _ _ (by rfl)) _ _ _
theorem GE.agP (h:ah) (m page need:Int):GE h (gp h m page need):=by
  unfold gp;split
  · exact(GE.mid _ _ _).iP (GE.wr _ _ _)
  · exact GE.mid _ _ _
theorem GE.io (h:ah) (b:Bool) (e:aH):GE h (x4 h b e):=⟨by unfold x4;split<;>rfl,fun k=>by unfold x4;split<;>rfl⟩
theorem GE.to (h:ah) (m g page need q:Int) (io:Bool):GE h (m8 h m g page need q io).1:=by
  unfold m8;split
  · exact GE.g3 _
  · split
    · unfold r6 D6;refine GE.iP (GE.CN (GE.agP h m q need) m _ ?_) (GE.io _ _ _);rfl
    · exact GE.io _ _ _
theorem Uh (h:ah) (m g page need:Int) (io:Bool):GE h (cN h m g page need io).1:=by
  unfold cN;split
  · refine GE.iP ?_ (GE.to _ _ _ _ _ _ _)
    unfold kd;split
    · unfold qX;exact GE.CN (GE.g3 h) _ _ (by rfl)
    · exact GE.g3 _
  · exact GE.g3 _
theorem pF {h Y:ah} {m g page need:Int} {io:Bool} {k:Nat} (hY:Y=(cN h m g page need io).1):(el Y.I k).U=(el h.I k).U:=by
  subst hY;exact(Uh h m g page need io).2 k
theorem Gn {X xs:List aO} {k:Nat} {y:List ax} (h:X=xs.set k {el xs k with U:=y}) (hk:k<xs.length) (hy:y.length=(el xs k).U.length):(X.length=xs.length/\(el X k).outer.length=(el xs k).outer.length/\(el X k).out.length=(el xs k).out.length/\(el X k).aT.length=(el xs k).aT.length/\(el X k).U.length=(el xs k).U.length/\(el X k).outs.length=(el xs k).outs.length/\(el X k).tables.length=(el xs k).tables.length)/\el X k={el xs k with U:=y}:=by
  subst h;rw [dW hk];exact⟨⟨List.length_set,rfl,rfl,rfl,hy,rfl,rfl⟩,rfl⟩
section
variable {h Y:ah} {m g:Int} {x:ax} {wr:Bool} {X:List aO}
theorem akN (hY:Y=(cN h m g (ct (bn x)) (dD wr) false).1) (e:(cN h m g (ct (bn x)) (dD wr) false).2.2=false) (fT:X=Y.I.set m.toNat ({el Y.I m.toNat with U:=(el Y.I m.toNat).U.set g.toNat {x with exit:=gY (ct (bn x)) wr}}:aO)):mu h m g x wr=⟨Y.mem,X,Y.buf,Y.ag⟩:=by
  unfold mu mn;rw [if_pos e,←hY,fT];rfl
theorem akO (hY:Y=(cN h m g (ct (bn x)) (dD wr) false).1) (e:(cN h m g (ct (bn x)) (dD wr) false).2.2=true) (hw:wr=true) (fT:X=Y.I.set m.toNat ({el Y.I m.toNat with U:=(el Y.I m.toNat).U.set g.toNat (a5 x)}:aO)):mu h m g x wr=⟨gh Y.mem (cN h m g (ct (bn x)) (dD wr) false).2.1 (ds (bn x)) x.acc,X,Y.buf,Y.ag⟩:=by
  unfold mu mn;rw [if_neg (by rw [e];decide),if_pos hw,←hY,fT];rfl
theorem akM (hY:Y=(cN h m g (ct (bn x)) (dD wr) false).1) (e:(cN h m g (ct (bn x)) (dD wr) false).2.2=true) (hw:wr=false) (fT:X=Y.I.set m.toNat ({el Y.I m.toNat with U:=(el Y.I m.toNat).U.set g.toNat (ia x (fI Y.mem (cN h m g (ct (bn x)) (dD wr) false).2.1 (ds (bn x))))}:aO)):mu h m g x wr=⟨Y.mem,X,Y.buf,Y.ag⟩:=by
  unfold mu mn;rw [if_neg (by rw [e];decide),if_neg (by rw [hw];decide),←hY,fT];rfl
end
section
variable {xs fb X:List aO} {k:Nat} {x:ax} {want t:Int}
theorem FV (hc:(((want != 6)&&(hT (el xs k).aY x.aN.aY t==2))&&decide ((el xs k).owned<1000000000))=true) (bx:t=fR want):xs.set k ({el xs k with owned:=(el xs k).owned+1}:aO)=xs.set k ({el xs k with owned:=gq (el xs k) x want}:aO):=by
  subst bx
  simp only [Bool.and_eq_true,bne_iff_ne,ne_eq,beq_iff_eq,decide_eq_true_eq] at hc
  unfold gq;rw [if_pos hc]
theorem FQ (hc:(((want != 6)&&(hT (el xs k).aY x.aN.aY t==2))&&decide ((el xs k).owned<1000000000))=false) (bx:t=fR want):xs=xs.set k ({el xs k with owned:=gq (el xs k) x want}:aO):=by
  subst bx
  have JE:¬((¬want=6/\hT (el xs k).aY x.aN.aY (fR want)=2)/\(el xs k).owned<1000000000):=fun h=>by
    rw [Bool.eq_false_iff] at hc;apply hc
    simp only [Bool.and_eq_true,bne_iff_ne,ne_eq,beq_iff_eq,decide_eq_true_eq];exact h
  unfold gq;rw [if_neg JE];exact zk.symm
theorem FW (h1:¬want=6) (an:hT (el xs k).aY x.aN.aY t=2) (aF:(el xs k).owned<1000000000) (bx:t=fR want):xs.set k ({el xs k with owned:=(el xs k).owned+1}:aO)=xs.set k ({el xs k with owned:=gq (el xs k) x want}:aO):=by
  subst bx;unfold gq;rw [if_pos ⟨⟨h1,an⟩,aF⟩]
theorem Mx (hc:¬((¬want=6/\hT (el xs k).aY x.aN.aY (fR want)=2)/\(el xs k).owned<1000000000)):xs=xs.set k ({el xs k with owned:=gq (el xs k) x want}:aO):=by
  unfold gq;rw [if_neg hc];exact zk.symm
theorem FR (h1:want=6):xs=xs.set k ({el xs k with owned:=gq (el xs k) x want}:aO):=Mx fun h=>h.1.1 h1
theorem FT (an:¬hT (el xs k).aY x.aN.aY t=2) (bx:t=fR want):xs=xs.set k ({el xs k with owned:=gq (el xs k) x want}:aO):=Mx fun h=>an (bx▸h.1.2)
theorem FU (aF:¬(el xs k).owned<1000000000):xs=xs.set k ({el xs k with owned:=gq (el xs k) x want}:aO):=Mx fun h=>aF h.2
theorem FN (gT:fb=xs.set k ({el xs k with owned:=gq (el xs k) x want}:aO)) (h1:(dS x x.aN.aY want).2=true) (an:want=5) (aF:(((el fb k).outs.length:Nat):Int)<40) (hk:k<xs.length:=by omega):
    fb.set k ({el fb k with outs:=(el fb k).outs++[(bG x.prog x.aw).x]}:aO)=xs.set k ({el xs k with owned:=gq (el xs k) x want,outs:=ll (el xs k) x want}:aO):=by
  rw [gT,dW hk] at aF ⊢;rw [List.set_set]
  unfold ll;rw [if_pos ⟨⟨h1,an⟩,by simp only at aF;omega⟩]
theorem Mo (gT:fb=xs.set k ({el xs k with owned:=gq (el xs k) x want}:aO)) (hc:¬(((dS x x.aN.aY want).2=true/\want=5)/\(el fb k).outs.length<40)) (hk:k<xs.length:=by omega):
    fb=xs.set k ({el xs k with owned:=gq (el xs k) x want,outs:=ll (el xs k) x want}:aO):=by
  have e:(el fb k).outs=(el xs k).outs:=by rw [gT,dW hk]
  rw [e] at hc
  unfold ll;rw [if_neg hc];exact gT
theorem FJ (gT:fb=xs.set k ({el xs k with owned:=gq (el xs k) x want}:aO)) (h1:(dS x x.aN.aY want).2=false) (hk:k<xs.length:=by omega):
    fb=xs.set k ({el xs k with owned:=gq (el xs k) x want,outs:=ll (el xs k) x want}:aO):=Mo gT (fun h=>by rw [h1] at h;cases h.1.1) hk
theorem FK (gT:fb=xs.set k ({el xs k with owned:=gq (el xs k) x want}:aO)) (h1:¬want=5) (hk:k<xs.length:=by omega):
    fb=xs.set k ({el xs k with owned:=gq (el xs k) x want,outs:=ll (el xs k) x want}:aO):=Mo gT (fun h=>h1 h.1.2) hk
theorem FL (gT:fb=xs.set k ({el xs k with owned:=gq (el xs k) x want}:aO)) (h1:¬(((el fb k).outs.length:Nat):Int)<40) (hk:k<xs.length:=by omega):
    fb=xs.set k ({el xs k with owned:=gq (el xs k) x want,outs:=ll (el xs k) x want}:aO):=Mo gT (fun h=>h1 (by omega)) hk
theorem B8 {o:Int} (gT:fb=xs.set k ({el xs k with owned:=o}:aO)):(el fb k).U=(el xs k).U:=by
  subst gT;exact QT _ _ _ _ rfl
theorem aiO {o:Int} (gT:fb=xs.set k ({el xs k with owned:=o}:aO)) (hk:k<xs.length):fb.length=xs.length/\(el fb k).U.length=(el xs k).U.length/\(el fb k).outs.length=(el xs k).outs.length:=by
  subst gT;rw [dW hk];exact⟨List.length_set,rfl,rfl⟩
theorem aiJ {o:Int} {os:List Int} (gT:fb=xs.set k ({el xs k with owned:=o,outs:=os}:aO)) (hk:k<xs.length):fb.length=xs.length/\(el fb k).U.length=(el xs k).U.length:=by
  subst gT;rw [dW hk];exact⟨List.length_set,rfl⟩
theorem FM (gT:fb=xs.set k ({el xs k with owned:=gq (el xs k) x want}:aO)) (fT:X=fb.set k ({el fb k with outs:=(el fb k).outs++[(bG x.prog x.aw).x]}:aO)) (hc:(((dS x x.aN.aY want).2&&(want==5))&&decide ((el fb k).outs.length<40))=true) (hk:k<xs.length:=by omega):
    X=xs.set k ({el xs k with owned:=gq (el xs k) x want,outs:=ll (el xs k) x want}:aO):=by
  simp only [Bool.and_eq_true,beq_iff_eq,decide_eq_true_eq] at hc
  subst fT;rw [gT,dW hk] at hc ⊢;rw [List.set_set]
  unfold ll;rw [if_pos hc]
theorem FI (gT:fb=xs.set k ({el xs k with owned:=gq (el xs k) x want}:aO)) (hc:(((dS x x.aN.aY want).2&&(want==5))&&decide ((el fb k).outs.length<40))=false) (hk:k<xs.length:=by omega):
    fb=xs.set k ({el xs k with owned:=gq (el xs k) x want,outs:=ll (el xs k) x want}:aO):=by
  have JE:¬(((dS x x.aN.aY want).2=true/\want=5)/\(el xs k).outs.length<40):=fun h=>by
    rw [Bool.eq_false_iff] at hc;apply hc
    simp only [Bool.and_eq_true,beq_iff_eq,decide_eq_true_eq]
    rw [gT,dW hk];exact h
  unfold ll;rw [if_neg JE];exact gT
theorem akP {h:ah} {m g:Int} {x:ax} {fb X:List aO} (gT:fb=h.I.set m.toNat ({el h.I m.toNat with owned:=gq (el h.I m.toNat) x want,outs:=ll (el h.I m.toNat) x want}:aO))
    (fT:X=fb.set m.toNat ({el fb m.toNat with U:=(el fb m.toNat).U.set g.toNat (dS x x.aN.aY want).1}:aO)) (hk:m.toNat<h.I.length:=by omega):tn h m (ju (el h.I m.toNat) g x want)=⟨h.mem,X,h.buf,h.ag⟩:=by
  subst fT;rw [gT,dW hk,List.set_set];rfl
end
theorem afh (h:ah) (m g:Int):(dN h m g).1.I.length=h.I.length:=by
  unfold dN
  split
  · simp only
    generalize el (el h.I m.toNat).U g.toNat=x
    generalize bY x=want
    unfold r5 qc tn
    repeat' split
    · exact List.length_set
    · exact List.length_set
    · have e:=(Uh h m g (ct (bn x)) (dD (want==4)) false).1
      unfold mu qc mn
      repeat' split
      all_goals exact List.length_set.trans e
    · exact List.length_set
  · rfl
theorem akC {F:au} {w:World} {X:ah} {q:b_} (bp:GT.rd b6 F w X q) (hm:X.I.length<=3):aS.aW X<=9000000000000000:=by
  have h0:=ee.iT (bu.mem (d:=X) bp)
  have an:=ee.iT (bu.buf (d:=X) bp)
  have aF:=ee.iT (bu.ag (d:=X) bp)
  have h1:=NZ (m:=ee.B aO) X.I fun y hy=>by
    obtain⟨i,hi,rfl⟩:=List.getElem_of_mem hy
    have:=ae.el (bu.I (d:=X) bp) i hi
    rw [p_ hi] at this
    exact ee.iT this
  have nI:ee.B (List (List Int))<=20000000000000:=by decide
  have hP:ee.B aO<=500000000000000:=by decide
  have m2:ee.B (List aH)<=5000000:=by decide
  have b1:X.I.length*ee.B aO<=3*500000000000000:=Nat.mul_le_mul hm hP
  have bm:=nD X.I
  unfold hg at bm
  rw [CR]
  omega
theorem NW {m:Int} (p:ah->Prop) (bC:∀h g,p h->p (dN h m g).1):∀(l:List Int) (s:ah×List Bool),p s.1->p (l.foldl (fun s g=>((dN s.1 m g).1,s.2++[(dN s.1 m g).2])) s).1
  |[],s,h=>h
  |g::r,s,h=>NW p bC r _ (bC s.1 g h)
theorem akD {F:au} {w:World} {q:b_} (h:ah) (m:Int) (l:List Int) (bp:GT.rd b6 F w (ef h m l).1 q):aS.aW (ef h m l).1<=aS.aW h+9000000000000000:=by
  by_cases e:eJ h=true
  · have h1:=akC bp (NW (fun x=>x.I.length<=3) (fun x g hx=>by rw [afh];exact hx) l (h,[]) (sq e).2.1)
    omega
  · have an:(ef h m l).1=h:=by
      have aF:=NW (m:=m) (fun x=>x=h) (fun x g hx=>by subst hx;rw [oF (.inl (by unfold mr;simp [e]))]) l (h,[]) rfl
      exact aF
    rw [an];omega
theorem aaH {F:au} {w:World} {c:List Int} {p:aD Int} (h:GT.rd jW F w c p) (hl:c.length<=1048576):GT.rd b6 F w c p:=
  (⟨Nat.le_trans hl (by unfold b6;decide),ae.cap h,ae.at_ h,ae.cell h,fun i hi=>ae.el h i hi⟩:ae b6 F w c p)
end Go.Proofs.YtjlocpdfcanlhaaGreat
namespace Go.Proofs.YtjlocpdfcanlhaaGreat
open Go
set_option linter.unusedVariables false
def df (p cx:Nat->ft):Prop:=∀i,(cx i).U=(p i).U
theorem df.g3 (p:Nat->ft):df p p:=fun _=>rfl
theorem df.iP {p q r:Nat->ft} (h:df p q) (cl:df q r):df p r:=fun i=>(cl i).trans (h i)
theorem df.st {p:Nat->ft} {k:Nat} {q:ft} (h:q.U=(p k).U):df p (fun i=>if i=k then q else p i):=fun i=>by
  by_cases e:i=k
  · subst e;simp only [if_true];exact h
  · simp only [if_neg e]
section
variable {w0:World} {M:au} {u:World} {N:au}
theorem Rn {xs:List aO} {p:aD aO} {F:au} (o:ad w0 M u N F xs p) {k:Nat} (hk:k<xs.length):
    ∃
      H:au,ad w0 M u N H (el xs k).outer (p.2 k).outer/\(∀b,H b->F b)/\∀(bI:World) (aB:au) (y:List aR) (q:GT.Ptr (List aR)) (cI Fy:au),(∀b,N b->¬H b->aB b/\bI.heap[b]? =u.heap[b]?)->ad w0 M bI aB cI y q->(∀b,cI b->H b\/Fy b)->J F Fy->GT.cells y q=GT.cells (el xs k).outer (p.2 k).outer->(∀b,H b->aB b)->
      ∃cx,ad w0 M bI aB (Or F cI) (xs.set k {el xs k with outer:=y}) (p.1,cx)/\(∀j,GT.cells (el (xs.set k {el xs k with outer:=y}) j) (cx j)=GT.cells (el xs j) (p.2 j))/\df p.2 cx:=by
  obtain⟨H,h1,an,aF⟩:=o.x7 hk (fun x=>x.outer) (fun r=>r.outer) (fun x y=>{x with outer:=y}) (fun r q=>{r with outer:=q}) fun G u x r h=>by
    obtain⟨cH,cF,cU,c1,eI,eX,dx,cn,a8,b7,cC,dJ,s,f0,f1,f2⟩:=h
    refine⟨cH,dx,s.sub _ (by simp),fun bI y q cI Fy cl hs hd hw hc=>⟨⟨cI,cF,cU,c1,eI,eX,cl,GT.b8 cn fun b hb _=>hw b (s.sub _ (by simp) b hb) fun bE=>(cz s.cr (i:=0) (j:=1) (by decide) rfl rfl) b bE hb,GT.b8 a8 fun b hb _=>hw b (s.sub _ (by simp) b hb) fun bE=>(cz s.cr (i:=0) (j:=2) (by decide) rfl rfl) b bE hb,GT.b8 b7 fun b hb _=>hw b (s.sub _ (by simp) b hb) fun bE=>(cz s.cr (i:=0) (j:=3) (by decide) rfl rfl) b bE hb,GT.b8 cC fun b hb _=>hw b (s.sub _ (by simp) b hb) fun bE=>(cz s.cr (i:=0) (j:=4) (by decide) rfl rfl) b bE hb,GT.b8 dJ fun b hb _=>hw b (s.sub _ (by simp) b hb) fun bE=>(cz s.cr (i:=0) (j:=5) (by decide) rfl rfl) b bE hb,n_ s (i:=0) rfl hs hd,f0,f1,f2⟩,?_⟩⟩
    have e:=(List.cons.inj hc).1
    show [R y.length q.1,R x.out.length r.out.1,R x.aT.length r.aT.1,R x.U.length r.U.1,R x.outs.length r.outs.1,aa x.aC,aa x.aY,R x.tables.length r.tables.1,aa x.owned]=[R x.outer.length r.outer.1,R x.out.length r.out.1,R x.aT.length r.aT.1,R x.U.length r.U.1,R x.outs.length r.outs.1,aa x.aC,aa x.aY,R x.tables.length r.tables.1,aa x.owned]
    rw [e]
  exact⟨H,h1,an,fun bI aB y q cI Fy a b c d e f=>⟨_,(aF bI aB y q cI Fy a b c d e f).1,(aF bI aB y q cI Fy a b c d e f).2,df.st rfl⟩⟩
theorem Rm {xs:List aO} {p:aD aO} {F:au} (o:ad w0 M u N F xs p) {k:Nat} (hk:k<xs.length):
    ∃
      H:au,ad w0 M u N H (el xs k).out (p.2 k).out/\(∀b,H b->F b)/\∀(bI:World) (aB:au) (y:List (List Int)) (q:GT.Ptr (List (List Int))) (cI Fy:au),(∀b,N b->¬H b->aB b/\bI.heap[b]? =u.heap[b]?)->ad w0 M bI aB cI y q->(∀b,cI b->H b\/Fy b)->J F Fy->GT.cells y q=GT.cells (el xs k).out (p.2 k).out->(∀b,H b->aB b)->
      ∃cx,ad w0 M bI aB (Or F cI) (xs.set k {el xs k with out:=y}) (p.1,cx)/\(∀j,GT.cells (el (xs.set k {el xs k with out:=y}) j) (cx j)=GT.cells (el xs j) (p.2 j))/\df p.2 cx:=by
  obtain⟨H,h1,an,aF⟩:=o.x7 hk (fun x=>x.out) (fun r=>r.out) (fun x y=>{x with out:=y}) (fun r q=>{r with out:=q}) fun G u x r h=>by
    obtain⟨cH,cF,cU,c1,eI,eX,dx,cn,a8,b7,cC,dJ,s,f0,f1,f2⟩:=h
    refine⟨cF,cn,s.sub _ (by simp),fun bI y q cI Fy cl hs hd hw hc=>⟨⟨cH,cI,cU,c1,eI,eX,GT.b8 dx fun b hb _=>hw b (s.sub _ (by simp) b hb) fun bE=>(cz s.cr (i:=0) (j:=1) (by decide) rfl rfl) b hb bE,cl,GT.b8 a8 fun b hb _=>hw b (s.sub _ (by simp) b hb) fun bE=>(cz s.cr (i:=1) (j:=2) (by decide) rfl rfl) b bE hb,GT.b8 b7 fun b hb _=>hw b (s.sub _ (by simp) b hb) fun bE=>(cz s.cr (i:=1) (j:=3) (by decide) rfl rfl) b bE hb,GT.b8 cC fun b hb _=>hw b (s.sub _ (by simp) b hb) fun bE=>(cz s.cr (i:=1) (j:=4) (by decide) rfl rfl) b bE hb,GT.b8 dJ fun b hb _=>hw b (s.sub _ (by simp) b hb) fun bE=>(cz s.cr (i:=1) (j:=5) (by decide) rfl rfl) b bE hb,n_ s (i:=1) rfl hs hd,f0,f1,f2⟩,?_⟩⟩
    have e:=(List.cons.inj hc).1
    show [R x.outer.length r.outer.1,R y.length q.1,R x.aT.length r.aT.1,R x.U.length r.U.1,R x.outs.length r.outs.1,aa x.aC,aa x.aY,R x.tables.length r.tables.1,aa x.owned]=[R x.outer.length r.outer.1,R x.out.length r.out.1,R x.aT.length r.aT.1,R x.U.length r.U.1,R x.outs.length r.outs.1,aa x.aC,aa x.aY,R x.tables.length r.tables.1,aa x.owned]
    rw [e]
  exact⟨H,h1,an,fun bI aB y q cI Fy a b c d e f=>⟨_,(aF bI aB y q cI Fy a b c d e f).1,(aF bI aB y q cI Fy a b c d e f).2,df.st rfl⟩⟩
theorem Rl {xs:List aO} {p:aD aO} {F:au} (o:ad w0 M u N F xs p) {k:Nat} (hk:k<xs.length):
    ∃
      H:au,ad w0 M u N H (el xs k).aT (p.2 k).aT/\(∀b,H b->F b)/\∀(bI:World) (aB:au) (y:List Bool) (q:GT.Ptr (List Bool)) (cI Fy:au),(∀b,N b->¬H b->aB b/\bI.heap[b]? =u.heap[b]?)->ad w0 M bI aB cI y q->(∀b,cI b->H b\/Fy b)->J F Fy->GT.cells y q=GT.cells (el xs k).aT (p.2 k).aT->(∀b,H b->aB b)->
      ∃cx,ad w0 M bI aB (Or F cI) (xs.set k {el xs k with aT:=y}) (p.1,cx)/\(∀j,GT.cells (el (xs.set k {el xs k with aT:=y}) j) (cx j)=GT.cells (el xs j) (p.2 j))/\df p.2 cx:=by
  obtain⟨H,h1,an,aF⟩:=o.x7 hk (fun x=>x.aT) (fun r=>r.aT) (fun x y=>{x with aT:=y}) (fun r q=>{r with aT:=q}) fun G u x r h=>by
    obtain⟨cH,cF,cU,c1,eI,eX,dx,cn,a8,b7,cC,dJ,s,f0,f1,f2⟩:=h
    refine⟨cU,a8,s.sub _ (by simp),fun bI y q cI Fy cl hs hd hw hc=>⟨⟨cH,cF,cI,c1,eI,eX,GT.b8 dx fun b hb _=>hw b (s.sub _ (by simp) b hb) fun bE=>(cz s.cr (i:=0) (j:=2) (by decide) rfl rfl) b hb bE,GT.b8 cn fun b hb _=>hw b (s.sub _ (by simp) b hb) fun bE=>(cz s.cr (i:=1) (j:=2) (by decide) rfl rfl) b hb bE,cl,GT.b8 b7 fun b hb _=>hw b (s.sub _ (by simp) b hb) fun bE=>(cz s.cr (i:=2) (j:=3) (by decide) rfl rfl) b bE hb,GT.b8 cC fun b hb _=>hw b (s.sub _ (by simp) b hb) fun bE=>(cz s.cr (i:=2) (j:=4) (by decide) rfl rfl) b bE hb,GT.b8 dJ fun b hb _=>hw b (s.sub _ (by simp) b hb) fun bE=>(cz s.cr (i:=2) (j:=5) (by decide) rfl rfl) b bE hb,n_ s (i:=2) rfl hs hd,f0,f1,f2⟩,?_⟩⟩
    have e:=(List.cons.inj hc).1
    show [R x.outer.length r.outer.1,R x.out.length r.out.1,R y.length q.1,R x.U.length r.U.1,R x.outs.length r.outs.1,aa x.aC,aa x.aY,R x.tables.length r.tables.1,aa x.owned]=[R x.outer.length r.outer.1,R x.out.length r.out.1,R x.aT.length r.aT.1,R x.U.length r.U.1,R x.outs.length r.outs.1,aa x.aC,aa x.aY,R x.tables.length r.tables.1,aa x.owned]
    rw [e]
  exact⟨H,h1,an,fun bI aB y q cI Fy a b c d e f=>⟨_,(aF bI aB y q cI Fy a b c d e f).1,(aF bI aB y q cI Fy a b c d e f).2,df.st rfl⟩⟩
theorem Ro {xs:List aO} {p:aD aO} {F:au} (o:ad w0 M u N F xs p) {k:Nat} (hk:k<xs.length):
    ∃
      H:au,ad w0 M u N H (el xs k).tables (p.2 k).tables/\(∀b,H b->F b)/\∀(bI:World) (aB:au) (y:List bS) (q:GT.Ptr (List bS)) (cI Fy:au),(∀b,N b->¬H b->aB b/\bI.heap[b]? =u.heap[b]?)->ad w0 M bI aB cI y q->(∀b,cI b->H b\/Fy b)->J F Fy->GT.cells y q=GT.cells (el xs k).tables (p.2 k).tables->(∀b,H b->aB b)->
      ∃cx,ad w0 M bI aB (Or F cI) (xs.set k {el xs k with tables:=y}) (p.1,cx)/\(∀j,GT.cells (el (xs.set k {el xs k with tables:=y}) j) (cx j)=GT.cells (el xs j) (p.2 j))/\df p.2 cx:=by
  obtain⟨H,h1,an,aF⟩:=o.x7 hk (fun x=>x.tables) (fun r=>r.tables) (fun x y=>{x with tables:=y}) (fun r q=>{r with tables:=q}) fun G u x r h=>by
    obtain⟨cH,cF,cU,c1,eI,eX,dx,cn,a8,b7,cC,dJ,s,f0,f1,f2⟩:=h
    refine⟨eX,dJ,s.sub _ (by simp),fun bI y q cI Fy cl hs hd hw hc=>⟨⟨cH,cF,cU,c1,eI,cI,GT.b8 dx fun b hb _=>hw b (s.sub _ (by simp) b hb) fun bE=>(cz s.cr (i:=0) (j:=5) (by decide) rfl rfl) b hb bE,GT.b8 cn fun b hb _=>hw b (s.sub _ (by simp) b hb) fun bE=>(cz s.cr (i:=1) (j:=5) (by decide) rfl rfl) b hb bE,GT.b8 a8 fun b hb _=>hw b (s.sub _ (by simp) b hb) fun bE=>(cz s.cr (i:=2) (j:=5) (by decide) rfl rfl) b hb bE,GT.b8 b7 fun b hb _=>hw b (s.sub _ (by simp) b hb) fun bE=>(cz s.cr (i:=3) (j:=5) (by decide) rfl rfl) b hb bE,GT.b8 cC fun b hb _=>hw b (s.sub _ (by simp) b hb) fun bE=>(cz s.cr (i:=4) (j:=5) (by decide) rfl rfl) b hb bE,cl,n_ s (i:=5) rfl hs hd,f0,f1,f2⟩,?_⟩⟩
    have e:=(List.cons.inj hc).1
    show [R x.outer.length r.outer.1,R x.out.length r.out.1,R x.aT.length r.aT.1,R x.U.length r.U.1,R x.outs.length r.outs.1,aa x.aC,aa x.aY,R y.length q.1,aa x.owned]=[R x.outer.length r.outer.1,R x.out.length r.out.1,R x.aT.length r.aT.1,R x.U.length r.U.1,R x.outs.length r.outs.1,aa x.aC,aa x.aY,R x.tables.length r.tables.1,aa x.owned]
    rw [e]
  exact⟨H,h1,an,fun bI aB y q cI Fy a b c d e f=>⟨_,(aF bI aB y q cI Fy a b c d e f).1,(aF bI aB y q cI Fy a b c d e f).2,df.st rfl⟩⟩
end
def rQ (F:au) (ai:b_) (w:World) (r:ah) (e:Ending) (w':World):Prop:=
  ∃(q:b_) (bU:au),e= .returned (GT.val r q)/\bB F w w'/\GT.own b6 bU w' r q/\(∀b,bU b->F b\/(w.heap.size<=b/\b<w'.heap.size))/\df ai.I.2 q.I.2
def zH (F:au) (ai:b_) (w:World) (r:ah) (k:Int) (c:Bool) (e:Ending) (w':World):Prop:=
  ∃(q:b_) (bU:au),e= .returned (.tuple #[GT.val r q,aa k,B c])/\bB F w w'/\GT.own b6 bU w' r q/\a_ k/\(∀b,bU b->F b\/(w.heap.size<=b/\b<w'.heap.size))/\df ai.I.2 q.I.2
theorem rQ.out {F:au} {ai:b_} {w w':World} {r:ah} {e:Ending} (h:rQ F ai w r e w'):uN F F w r e w':=
  let⟨q,bU,h1,an,aF,b1,_⟩:=h;⟨q,bU,h1,an,aF,b1⟩
theorem zH.out {F:au} {ai:b_} {w w':World} {r:ah} {k:Int} {c:Bool} {e:Ending} (h:zH F ai w r k c e w'):Xo F F w r k c e w':=
  let⟨q,bU,h1,an,aF,b1,bm,_⟩:=h;⟨q,bU,h1,an,aF,b1,bm⟩
section
variable {P:Program} {n:Nat} {w0:World} {M:au} {u:World} {N:au} {β:Nat->Nat} {σ:b3} {a:Act} {w:World} {ops:Array Oper} {Q:Exit->Act->World->Prop} {dh:Act->World->Prop}
theorem aj.Qm {F:au} {x:ah} {p:b_} (S:aj P n w0 M u N β σ a w) (o:ad w0 M u N F x p) {i:Nat} {f:FuncId} {eN:List Value} {d:Tmp} {r Y:ah} (hY:Y=r) (hc:Calls P f eN.toArray w (rQ F p w r))
    (K:∀a1 w' aB q bU,aj P n w0 M w' aB β ⟨(d,.v (GT.val Y q))::σ.env,σ.aM⟩ a1 w'->(∀b,N b->¬F b->aB b/\w'.heap[b]? =u.heap[b]?)->ad w0 M w' aB bU Y q->(∀G:au,J G F->(∀b,G b->N b)->J G bU)->df p.I.2 (b_.I q).2->dh a1 w')
    (hcall:kz P n ops i σ=some (f,eN,d):=by kernel_rfl) (hd:Nat.blt d n=true:=by kernel_rfl):wpOp P ops Q i dh a w:=by
  subst hY
  exact S.call hcall hc fun _ w' ⟨q,bU,he,fp,bN,bc,aJ⟩=>⟨_,he,K _ w' _ q bU ((S.qQ fp o.sub o.dM).put (wq hd) (fun _ _ e=>by cases e)) (S.bk fp)
    ⟨bN,fun b h=>(bc b h).elim (fun h=> .inl (o.sub b h)) .inr,fun b h=>(bc b h).elim (o.dM b) (fun h=> .inl (Nat.le_trans S.fu.size h.1))⟩
    (fun G cn a8 b h1 an=>(bc b an).elim (cn b h1) (fun h=>by have:=(S.sep b (a8 b h1)).1;omega)) aJ⟩
theorem aj.aax {F:au} {x:ah} {p:b_} (S:aj P n w0 M u N β σ a w) (o:ad w0 M u N F x p) {i:Nat} {f:FuncId} {eN:List Value} {d:Tmp} {r Y:ah} {k:Int} {c:Bool} (hY:Y=r) (hc:Calls P f eN.toArray w (zH F p w r k c))
    (K:∀a1 w' aB q bU,aj P n w0 M w' aB β ⟨(d,.v (.tuple #[GT.val Y q,aa k,B c]))::σ.env,σ.aM⟩ a1 w'->(∀b,N b->¬F b->aB b/\w'.heap[b]? =u.heap[b]?)->ad w0 M w' aB bU Y q->(∀G:au,J G F->(∀b,G b->N b)->J G bU)->a_ k->df p.I.2 (b_.I q).2->dh a1 w')
    (hcall:kz P n ops i σ=some (f,eN,d):=by kernel_rfl) (hd:Nat.blt d n=true:=by kernel_rfl):wpOp P ops Q i dh a w:=by
  subst hY
  exact S.call hcall hc fun _ w' ⟨q,bU,he,fp,bN,hk,bc,aJ⟩=>⟨_,he,K _ w' _ q bU ((S.qQ fp o.sub o.dM).put (wq hd) (fun _ _ e=>by cases e)) (S.bk fp)
    ⟨bN,fun b h=>(bc b h).elim (fun h=> .inl (o.sub b h)) .inr,fun b h=>(bc b h).elim (o.dM b) (fun h=> .inl (Nat.le_trans S.fu.size h.1))⟩
    (fun G cn a8 b h1 an=>(bc b an).elim (cn b h1) (fun h=>by have:=(S.sep b (a8 b h1)).1;omega)) hk aJ⟩
theorem wP {F bU:au} {r x:ah} {ai p:b_} {v:Value} (S:aj P n w0 F u N β σ a w) (h:r=x) (b2:v=GT.val x p) (o:ad w0 F u N bU x p) (aJ:df ai.I.2 p.I.2):rQ F ai w0 r (.returned (packed [v])) w:=by
  obtain⟨q,cd,h1,an,aF,b1⟩:=Cs S h b2 o
  subst h b2
  exact⟨p,bU,rfl,an,S.fP o,fun b hb=>(o.dM b hb).elim (fun h=> .inr ⟨h,(S.sep b (o.sub b hb)).1⟩) .inl,aJ⟩
theorem Cr {F bU:au} {r x:ah} {k fz:Int} {c zV:Bool} {ai p:b_} {v:Value} (S:aj P n w0 F u N β σ a w) (h:r=x) (hk:k=fz) (JG:c=zV) (b2:v=GT.val x p) (o:ad w0 F u N bU x p) (cS:a_ fz) (aJ:df ai.I.2 p.I.2):zH F ai w0 r k c (.returned (packed [v,aa fz,B zV])) w:=by
  subst h hk JG b2
  exact⟨p,bU,rfl,S.fu,S.fP o,cS,fun b hb=>(o.dM b hb).elim (fun h=> .inr ⟨h,(S.sep b (o.sub b hb)).1⟩) .inl,aJ⟩
end
end Go.Proofs.YtjlocpdfcanlhaaGreat
namespace Go.Proofs.YtjlocpdfcanlhaaGreat
open Go
set_option linter.unusedVariables false
section
variable {P:Program} {n:Nat} {w0:World} {M:au} {u:World} {N:au} {β:Nat->Nat} {a:Act} {w:World} {Q:Exit->Act->World->Prop}
theorem aj.zE {bT:dq} {F:au} {x:ah} {p:b_} {f:FuncId} {eN:List Value} {d:Tmp} {r Y:ah} (S:aj P n w0 M u N β bT.σ a w) (o:ad w0 M u N F x p) (hY:Y=r) (hc:Calls P f eN.toArray w (rQ F p w r)) (K:∀a1 w' aB q bU,aj P n w0 M w' aB β (bT.put d (GT.val Y q)).σ a1 w'->(∀b,N b->¬F b->aB b/\w'.heap[b]? =u.heap[b]?)->ad w0 M w' aB bU Y q->(∀G:au,J G F->(∀b,G b->N b)->J G bU)->df p.I.2 (b_.I q).2->dZ P Q (bT.put d (GT.val Y q)) a1 w') (hcall:kz P n bT.cG.opsOf bT.cG.idx bT.σ=some (f,eN,d):=by kernel_rfl) (hd:Nat.blt d n=true:=by kernel_rfl) (cb:bT.cG.kJ=true:=by kernel_rfl):dZ P Q bT a w:=
  ⟨lo (aj.Qm S (o:=o) (hY:=hY) (hc:=hc) (hcall:=hcall) (hd:=hd) (K:=fun _ _ _ _ _ h0 h1 an aF b1=>(K _ _ _ _ _ h0 h1 an aF b1).ok)) cb⟩
end
end Go.Proofs.YtjlocpdfcanlhaaGreat
namespace Go.Proofs.YtjlocpdfcanlhaaGreat
open Go
theorem ZN (w0:World) (x:Int) (fC:0<=x) (gU:x<=9223372036854775807):Calls Tryz.prog 313 [.int .u64 x].toArray w0 (fun e w'=>e= .returned (aa (qW x))/\bB ab w0 w'):=
  (Go.Proofs.YtjlocpdfcanlhaaGreatBits.bits_Len x w0 fC (by omega)).mono fun e w' ⟨h1,an⟩=>⟨h1,an▸bB.refl _ _⟩
end Go.Proofs.YtjlocpdfcanlhaaGreat
