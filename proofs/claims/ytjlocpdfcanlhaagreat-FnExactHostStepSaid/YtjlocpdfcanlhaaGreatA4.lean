/- A guest's steps in plain data. No program is named here. -/
import Derived.Test.YtjlocpdfcanlhaaGreatA3
import Derived.Test.YtjlocpdfcanlhaaGreatA1
import Derived.Test.YtjlocpdfcanlhaaGreatBits
namespace Go.Proofs.YtjlocpdfcanlhaaGreat
open Go
def bF (p:List c_) (aw:Int):c_:=if 0<=aw/\aw<p.length then el p aw.toNat else⟨7,0⟩
theorem lV {K:Nat} {F:au} {w:World} {p:List c_} {q:aC c_} (h:GT.rd K F w p q) (aw:Int):iY (bF p aw):=by
  unfold bF
  split
  · exact af.el h aw.toNat (by omega)
  · exact⟨⟨by decide,by decide⟩,⟨by decide,by decide⟩⟩
def nI (g:ax):Bool:=lK g&&g.aN.eV&&decide (gp g.aB>=0)
theorem Dx {a b c d:Int} (h:((a==b)||(c==d))=true):a=b\/c=d:=by
  rcases (Bool.or_eq_true _ _).mp h with h|h
  · exact .inl (eq_of_beq h)
  · exact .inr (eq_of_beq h)
def DE (o:Int):Int:=if o=3 then 3 else if o=4 then 4 else if o=5 then 5 else if o=6 then 6 else if o=7 then 7 else 2
def bZ (g:ax):Int:=if lK g=false then 0 else if nI g=true then 1 else DE (bF g.prog g.aw).eF
theorem tZ (g:ax):0<=bZ g/\bZ g<=7:=by
  unfold bZ DE
  repeat' split
  all_goals decide
def g4 (g:ax) (n:Int):ax:=if g.seen.length<40 then {g with seen:=g.seen++[n]} else g
def jq (g:ax):ax:=if nI g=true then g4 {g with aB:=(eE g.aB).1} (100+(eE g.aB).2.1) else g
theorem VU (p:Int):-1<=(eE p).2.1/\(eE p).2.1<=64:=by
  have:=Cw p
  unfold eE
  split
  · constructor<;>(simp only;omega)
  · constructor<;>(simp only;omega)
def Ia (g:ax) (i:c_):ax:=
  if(0<=g.acc/\g.acc<=99)/\0<=i.x/\i.x<=99 then
    (if i.eF=1 then {a4 g with acc:=i.x} else if i.eF=2 then {a4 g with acc:=Int.tmod (g.acc+i.x) 100} else if i.eF=8/\g.acc=0 then {a4 g with aw:=i.x} else a4 g)
  else a4 g
def gu (g:ax):ax:=if bZ g=2 then Ia g (bF g.prog g.aw) else g
def h5 (g:ax) (v:Int):ax:=a4 (g4 {g with acc:=v} v)
def bm (g:ax):Int:=if bZ g=3\/bZ g=4 then(bF g.prog g.aw).x else-1
theorem jU {K:Nat} {F:au} {w:World} {g:ax} {p:c6} (h:GT.rd K F w g p):a_ (bm g):=by
  unfold bm
  split
  · exact iY.x (lV (az.prog h) g.aw)
  · exact⟨by decide,by decide⟩
def dB (w:Bool):Int:=if w=true then 2 else 1
def gU (page:Int) (w:Bool):df:=⟨1,page,w,0⟩
def ma (n:Int):df:=⟨2,0,false,n⟩
def me (n:Int):df:=⟨3,0,false,n⟩
theorem J2:a_ 0:=⟨by decide,by decide⟩
theorem Ic {p:Int} (h:a_ p) (w:Bool):fF (gU p w):=⟨(show a_ 1 from⟨by decide,by decide⟩),h,J2⟩
theorem P3 {n:Int} (h:a_ n):fF (ma n):=⟨(show a_ 2 from⟨by decide,by decide⟩),J2,h⟩
theorem UB {n:Int} (h:a_ n):fF (me n):=⟨(show a_ 3 from⟨by decide,by decide⟩),J2,h⟩
def hO (t k:Int):Bool:=a3 t 0 3&&decide (k=1\/k=2)&&(jH t k != 0)
def hQ (outer inner k:Int):Int:=if hO inner k=true then 1 else if hO outer k=true then 2 else 0
def dN (x:ax) (aX want:Int):ax×Bool:=
  if want=6 then({x with exit:=ma (bF x.prog x.aw).x},false)
  else if want=5/\hO aX 1=true then({x with exit:=me (bF x.prog x.aw).x},false)
  else if want=7/\hO aX 2=true then({x with exit:=⟨4,0,false,0⟩},false)
  else if want=7 then(jA x,true) else(a4 x,true)
def mh (x:ax) (want:Int):ax:=if want=5 then {x with exit:=me (bF x.prog x.aw).x} else {x with exit:=⟨4,0,false,0⟩}
def fN (want:Int):Int:=if want=5 then 1 else 2
def lh (b:cP) (n:Int):cP:=if b.outs.length<40 then⟨b.mem,b.U,b.outs++[n],b.aB⟩ else b
def s7 (x:ax) (want:Int):Int×Bool:=cV x.live (cr (bm x)) (dB (want==4))
def z6 (b:cP) (g:Int) (x:ax) (want:Int):cP:=
  if(s7 x want).2=false then⟨b.mem,b.U.set g.toNat {x with exit:=gU (cr (bm x)) (want==4)},b.outs,b.aB⟩
  else if want=4 then⟨gf b.mem (s7 x want).1 (dr (bm x)) x.acc,b.U.set g.toNat (a4 x),b.outs,b.aB⟩
  else⟨b.mem,b.U.set g.toNat (h5 x (fB b.mem (s7 x want).1 (dr (bm x)))),b.outs,b.aB⟩
def o8 (b:cP) (x:ax) (want:Int):cP:=if(dN x x.aN.aX want).2=true/\want=5 then lh b (bF x.prog x.aw).x else b
def mQ (b:cP) (g:Int) (x:ax) (want:Int):cP:=
  if want=1 then⟨b.mem,b.U.set g.toNat (jq x),b.outs,b.aB⟩
  else if want=2 then⟨b.mem,b.U.set g.toNat (gu x),b.outs,b.aB⟩
  else if want=3\/want=4 then z6 b g x want
  else⟨(o8 b x want).mem,(o8 b x want).U.set g.toNat (dN x x.aN.aX want).1,(o8 b x want).outs,(o8 b x want).aB⟩
def eS (b:cP) (g:Int):cP×Bool:=
  if jz b=true/\(0<=g/\g<b.U.length)/\¬bZ (el b.U g.toNat)=0 then(mQ b g (el b.U g.toNat) (bZ (el b.U g.toNat)),true) else(b,false)
theorem xa {b:cP} {g:Int} (e:jz b=false\/(a2 b g).2=false\/bZ (a2 b g).1=0):eS b g=(b,false):=by
  unfold eS
  rw [if_neg]
  rintro⟨h1,an,aF⟩
  rcases e with e|e|e
  · rw [e] at h1;cases h1
  · unfold a2 at e;rw [if_pos an] at e;cases e
  · unfold a2 at e;rw [if_pos an] at e;exact aF e
theorem OJ {b:cP} {g:Int} (ct:jz b=true) (cA:(a2 b g).2=true) (fe:¬bZ (a2 b g).1=0):eS b g=(mQ b g (a2 b g).1 (bZ (a2 b g).1),true):=by
  unfold a2 at cA fe ⊢
  split at cA
  · rename_i an
    rw [if_pos an] at fe ⊢
    unfold eS
    rw [if_pos ⟨ct,an,fe⟩]
  · cases cA
theorem sI {b:cP} {g:Int} (e:(a2 b g).2=true) (x:ax):gB b g x=⟨b.mem,b.U.set g.toNat x,b.outs,b.aB⟩:=by
  unfold a2 at e
  split at e
  · rename_i an;unfold gB;rw [if_pos an]
  · cases e
theorem CZ {b:cP} {g:Int} {x:ax} {want:Int} (e:want=1):mQ b g x want=⟨b.mem,b.U.set g.toNat (jq x),b.outs,b.aB⟩:=by subst e;rfl
theorem C0 {b:cP} {g:Int} {x:ax} {want:Int} (e:want=2):mQ b g x want=⟨b.mem,b.U.set g.toNat (gu x),b.outs,b.aB⟩:=by subst e;rfl
theorem G4 {b:cP} {g:Int} {x:ax} {want:Int} (e:want=3\/want=4):mQ b g x want=z6 b g x want:=by rcases e with e|e<;>subst e<;>rfl
theorem C1 {b:cP} {g:Int} {x:ax} {want:Int} (ct:¬want=1) (cA:¬want=2) (fe:¬want=3) (pY:¬want=4):
    mQ b g x want=⟨(o8 b x want).mem,(o8 b x want).U.set g.toNat (dN x x.aN.aX want).1,(o8 b x want).outs,(o8 b x want).aB⟩:=by
  unfold mQ
  rw [if_neg ct,if_neg cA,if_neg (by omega)]
theorem lz {b lI:cP} {g:Int} (e:(a2 b g).2=true) (h:lI.U=b.U) (x:ax):gB lI g x=⟨lI.mem,lI.U.set g.toNat x,lI.outs,lI.aB⟩:=by
  unfold a2 at e
  split at e
  · rename_i an;unfold gB;rw [if_pos (by rw [h];exact an)]
  · cases e
theorem sw (b:cP) (n:Int):(lh b n).U=b.U:=by unfold lh;split<;>rfl
section
variable {b:cP} {g:Int} {x:ax} {want:Int}
theorem KZ (h:want=3\/want=4) (e:(cV x.live (cr (bm x)) (dB (want==4))).2=false):mQ b g x want=⟨b.mem,b.U.set g.toNat {x with exit:=gU (cr (bm x)) (want==4)},b.outs,b.aB⟩:=by
  rw [G4 h];unfold z6;rw [if_pos (show(s7 x want).2=false from e)]
theorem K0 (h:want=4) (e:(cV x.live (cr (bm x)) (dB (want==4))).2=true):mQ b g x want=⟨gf b.mem (cV x.live (cr (bm x)) (dB (want==4))).1 (dr (bm x)) x.acc,b.U.set g.toNat (a4 x),b.outs,b.aB⟩:=by
  rw [G4 (.inr h)];unfold z6;rw [if_neg (show ¬(s7 x want).2=false by rw [show(s7 x want).2=true from e];exact fun h=>by cases h),if_pos h];rfl
theorem KY (h:want=3) (e:(cV x.live (cr (bm x)) (dB (want==4))).2=true):mQ b g x want=⟨b.mem,b.U.set g.toNat (h5 x (fB b.mem (cV x.live (cr (bm x)) (dB (want==4))).1 (dr (bm x)))),b.outs,b.aB⟩:=by
  rw [G4 (.inl h)];unfold z6;rw [if_neg (show ¬(s7 x want).2=false by rw [show(s7 x want).2=true from e];exact fun h=>by cases h),if_neg (by omega)];rfl
theorem E8 (h:want=6):mQ b g x want=⟨b.mem,b.U.set g.toNat {x with exit:=ma (bF x.prog x.aw).x},b.outs,b.aB⟩:=by
  subst h;rfl
theorem L1 (cX:want=5\/want=7) (e:hO x.aN.aX (fN want)=true):mQ b g x want=⟨b.mem,b.U.set g.toNat (mh x want),b.outs,b.aB⟩:=by
  rcases cX with h|h<;>subst h
  · have ct:dN x x.aN.aX 5=({x with exit:=me (bF x.prog x.aw).x},false):=by
      unfold dN;rw [if_neg (by decide),if_pos ⟨rfl,e⟩]
    rw [C1 (by decide) (by decide) (by decide) (by decide)]
    unfold o8
    rw [ct,if_neg (by rintro⟨h,_⟩;cases h)]
    rfl
  · have ct:dN x x.aN.aX 7=({x with exit:=⟨4,0,false,0⟩},false):=by
      unfold dN;rw [if_neg (by decide),if_neg (by rintro⟨h,_⟩;cases h),if_pos ⟨rfl,e⟩]
    rw [C1 (by decide) (by decide) (by decide) (by decide)]
    unfold o8
    rw [ct,if_neg (by rintro⟨h,_⟩;cases h)]
    rfl
theorem L0 (h:want=5) (e:hO x.aN.aX (fN want)=false):mQ b g x want=⟨(lh b (bF x.prog x.aw).x).mem,(lh b (bF x.prog x.aw).x).U.set g.toNat (a4 x),(lh b (bF x.prog x.aw).x).outs,(lh b (bF x.prog x.aw).x).aB⟩:=by
  subst h
  have h3:hO x.aN.aX 1=false:=e
  have ct:dN x x.aN.aX 5=(a4 x,true):=by
    unfold dN;rw [if_neg (by decide),if_neg (by rw [h3];rintro⟨_,h⟩;cases h),if_neg (by rintro⟨h,_⟩;cases h),if_neg (by decide)]
  rw [C1 (by decide) (by decide) (by decide) (by decide)]
  unfold o8
  rw [ct,if_pos ⟨rfl,rfl⟩]
theorem LY (h:want=7) (e:hO x.aN.aX (fN want)=false):mQ b g x want=⟨b.mem,b.U.set g.toNat (jA x),b.outs,b.aB⟩:=by
  subst h
  have h3:hO x.aN.aX 2=false:=e
  have ct:dN x x.aN.aX 7=(jA x,true):=by
    unfold dN;rw [if_neg (by decide),if_neg (by rintro⟨h,_⟩;cases h),if_neg (by rw [h3];rintro⟨_,h⟩;cases h),if_pos rfl]
  rw [C1 (by decide) (by decide) (by decide) (by decide)]
  unfold o8
  rw [ct,if_neg (by rintro⟨_,h⟩;cases h)]
end
end Go.Proofs.YtjlocpdfcanlhaaGreat
namespace Go.Proofs.YtjlocpdfcanlhaaGreat
open Go
def mf (h:ah) (m g:Int):Bool:=eD h&&a3 m 0 ((h.I.length:Int)-1)&&a3 g 0 (((el h.I m.toNat).U.length:Int)-1)
theorem FU {h:ah} {m g:Int} (e:mf h m g=true):eD h=true/\(0<=m/\m<h.I.length)/\0<=g/\g<(el h.I m.toNat).U.length:=by
  simp only [mf,Bool.and_eq_true] at e
  have h1:=cU e.1.2
  have an:=cU e.2
  exact⟨e.1.1,by omega,by omega⟩
def p3 (h:ah) (m g:Int) (x:ax):ah:=⟨h.mem,h.I.set m.toNat {el h.I m.toNat with U:=(el h.I m.toNat).U.set g.toNat x},h.buf,h.ag⟩
def mb (h:ah) (m g:Int) (x:ax) (wr:Bool):ah×Int×Bool:=cL h m g (cr (bm x)) (dB wr) false
def mg (h:ah) (m g:Int) (x:ax) (wr:Bool):ah:=
  if(mb h m g x wr).2.2=false then p3 (mb h m g x wr).1 m g {x with exit:=gU (cr (bm x)) wr}
  else if wr=true then p3 ⟨gf (mb h m g x wr).1.mem (mb h m g x wr).2.1 (dr (bm x)) x.acc,(mb h m g x wr).1.I,(mb h m g x wr).1.buf,(mb h m g x wr).1.ag⟩ m g (a4 x)
  else p3 (mb h m g x wr).1 m g (h5 x (fB (mb h m g x wr).1.mem (mb h m g x wr).2.1 (dr (bm x))))
def gn (x:aO) (y:ax) (want:Int):Int:=if(¬want=6/\hQ x.aX y.aN.aX (fN want)=2)/\x.owned<1000000000 then x.owned+1 else x.owned
def lg (x:aO) (y:ax) (want:Int):List Int:=if((dN y y.aN.aX want).2=true/\want=5)/\x.outs.length<40 then x.outs++[(bF y.prog y.aw).x] else x.outs
def jr (x:aO) (g:Int) (y:ax) (want:Int):aO:={x with U:=x.U.set g.toNat (dN y y.aN.aX want).1,outs:=lg x y want,owned:=gn x y want}
def s6 (h:ah) (m:Int) (x:aO):ah:=⟨h.mem,h.I.set m.toNat x,h.buf,h.ag⟩
def rS (h:ah) (m g:Int) (x:ax) (want:Int):ah:=
  if want=1 then p3 h m g (jq x)
  else if want=2 then p3 h m g (gu x)
  else if want=3\/want=4 then mg h m g x (want==4)
  else s6 h m (jr (el h.I m.toNat) g x want)
def dt (h:ah) (m g:Int):ah×Bool:=
  if mf h m g=true/\¬bZ (el (el h.I m.toNat).U g.toNat)=0 then
    (rS h m g (el (el h.I m.toNat).U g.toNat) (bZ (el (el h.I m.toNat).U g.toNat)),true)
  else(h,false)
theorem ow {h:ah} {m g:Int} (e:mf h m g=false\/bZ (el (el h.I m.toNat).U g.toNat)=0):dt h m g=(h,false):=by
  unfold dt
  rw [if_neg]
  rintro⟨h1,an⟩
  rcases e with e|e
  · rw [e] at h1;cases h1
  · exact an e
theorem qb {h:ah} {m g:Int} (e:mf h m g=true) (cA:¬bZ (el (el h.I m.toNat).U g.toNat)=0):dt h m g=(rS h m g (el (el h.I m.toNat).U g.toNat) (bZ (el (el h.I m.toNat).U g.toNat)),true):=by
  unfold dt
  rw [if_pos ⟨e,cA⟩]
section
variable {h:ah} {m g:Int} {x:ax} {want:Int}
theorem JO (e:want=1):rS h m g x want=p3 h m g (jq x):=by subst e;rfl
theorem JP (e:want=2):rS h m g x want=p3 h m g (gu x):=by subst e;rfl
theorem Ea (e:want=3\/want=4):rS h m g x want=mg h m g x (want==4):=by rcases e with e|e<;>subst e<;>rfl
theorem Eb (ct:¬want=1) (cA:¬want=2) (fe:¬want=3) (pY:¬want=4):rS h m g x want=s6 h m (jr (el h.I m.toNat) g x want):=by
  unfold rS
  rw [if_neg ct,if_neg cA,if_neg (by omega)]
end
theorem KW {h Y:ah} {m g page need:Int} {io:Bool} (hY:Y=(cL h m g page need io).1) (e:mf h m g=true):(0<=m/\m<Y.I.length)/\0<=g/\g<(el Y.I m.toNat).U.length:=by
  obtain⟨h1,an,aF⟩:=FU e
  subst hY
  unfold cL
  split
  · rename_i hk
    have hw:(cV (el (el h.I m.toNat).U g.toNat).live page need).2=true:=by
      simp only [s5,Bool.and_eq_true] at hk;exact hk.2
    have bD:=(tY hw h1 an aF).1
    have hd:=z0 (need:=need) rfl bD
    have hm:=K1 (need:=need) rfl hd.1
    show(0<=m/\m<(mV (j5 h m (uQ h m g page need) need) m g page need (uQ h m g page need) io).1.I.length)/\0<=g/\g<(el (mV (j5 h m (uQ h m g page need) need) m g page need (uQ h m g page need) io).1.I m.toNat).U.length
    change _/\_ at hd
    unfold uQ
    generalize (cV (el (el h.I m.toNat).U g.toNat).live page need).1=q at*
    generalize j5 h m q need=y at*
    have put:∀(z:ah) (e:aG),(xI z io e).I=z.I:=fun z e=>by unfold xI;split<;>rfl
    unfold mV
    split
    · show(0<=m/\m<y.I.length)/\0<=g/\g<(el y.I m.toNat).U.length
      exact⟨by omega,by omega⟩
    · split
      · unfold rT
        simp only [put]
        unfold DB j9
        simp only [List.length_set]
        rw [dS (show m.toNat<(gm y m q need).I.length by omega)]
        simp only
        exact⟨by omega,by omega⟩
      · unfold rT
        simp only [put]
        exact⟨by omega,by omega⟩
  · exact⟨an,aF⟩
end Go.Proofs.YtjlocpdfcanlhaaGreat
namespace Go.Proofs.YtjlocpdfcanlhaaGreat
open Go
set_option linter.unusedVariables false
def One (p:l8):au:=fun b=>p.nil=false/\b=p.b
theorem one_sub {K:Nat} {F:au} {w:World} {xs:List Int} {p:aC Int} (h:GT.own K F w xs p):∀b,One p.1 b->F b:=fun b ⟨z,e⟩=>e▸((show g1 K F w xs p from h).row z).1
theorem ahY {K:Nat} {F:au} {w:World} {xs:List Int} {p:aC Int} (h:GT.own K F w xs p):GT.own K (One p.1) w xs p:=by
  have h:g1 K F w xs p:=h
  obtain⟨G,cm,_,_⟩:=h.el
  exact(⟨h.le,h.cap,h.o5,h.null,fun z=>⟨⟨z,rfl⟩,(h.row z).2⟩,h.cell,fun _=>ab,fun i hi=>(cm i hi:a_ _),fun _ _ _ hb=>False.elim hb,fun _ _ _ _ _ _ hb=>False.elim hb⟩:g1 K (One p.1) w xs p)
theorem ahX {K:Nat} {N bW:au} {u w':World} {xs bj:List Int} {p r:aC Int} (h:GT.own K (One p.1) u xs p) (hN:∀b,One p.1 b->N b) (cl:GT.own K bW w' (xs++bj) r) (e:r.1=p.1\/∀b,N b->w'.heap[b]? =u.heap[b]?):GT.own K (One p.1) w' xs p:=by
  rcases e with e|e
  · have h:g1 K (One p.1) u xs p:=h
    have cl:g1 K bW w' (xs++bj) r:=cl
    obtain⟨G,cm,_,_⟩:=h.el
    refine(⟨h.le,h.cap,h.o5,h.null,fun z=>⟨⟨z,rfl⟩,?_⟩,fun i hi=>?_,fun _=>ab,fun i hi=>(cm i hi:a_ _),fun _ _ _ hb=>False.elim hb,fun _ _ _ _ _ _ hb=>False.elim hb⟩:g1 K (One p.1) w' xs p)
    · have:=(cl.row (by rw [e];exact z)).2
      rw [e] at this
      exact this
    · have h1:=cl.cell i (by rw [List.length_append];omega)
      rw [e] at h1
      rw [show el (xs++bj) i=el xs i from by unfold el;simp only [List.getD_eq_getElem?_getD,List.getElem?_append_left hi]] at h1
      exact h1
  · exact GT.b8 h fun b hb _=>e b (hN b hb)
section
variable {P:Program} {n:Nat} {w0:World} {M:au} {u:World} {N:au} {β:Nat->Nat} {a:Act} {w:World} {Q:Exit->Act->World->Prop}
theorem TW {K:Nat} {G Fy:au} {bI:World} {x:aO} {p:fj} {l:List Int} {q:aC Int} (h:GT.own K G u x p) (hl:GT.own K Fy bI l q) (cM:∀b,G b->N b) (hu:∀b,N b->¬One p.outs.1 b->bI.heap[b]? =u.heap[b]?) (mj:∀H:au,J H (One p.outs.1)->(∀b,H b->N b)->J H Fy):
    ∃gJ,GT.own K gJ bI ({x with outs:=l}:aO) {p with outs:=q}/\∀b,gJ b->G b\/(Fy b/\¬N b):=by
  obtain⟨cH,cE,cT,c1,eC,eQ,dx,cm,a8,b4,cB,dK,s,f0,f1,f2⟩:=h
  have bM:=one_sub cB
  have d0:J cH eC:=cy s.cq (i:=0) (j:=4) (by decide) rfl rfl
  have d1:J cE eC:=cy s.cq (i:=1) (j:=4) (by decide) rfl rfl
  have d2:J cT eC:=cy s.cq (i:=2) (j:=4) (by decide) rfl rfl
  have d3:J c1 eC:=cy s.cq (i:=3) (j:=4) (by decide) rfl rfl
  have d5:J eQ eC:=(cy s.cq (i:=4) (j:=5) (by decide) rfl rfl).symm
  have ga:=s.sub cH (by simp)
  have s1:=s.sub cE (by simp)
  have s2:=s.sub cT (by simp)
  have nr:=s.sub c1 (by simp)
  have Ci:=s.sub eC (by simp)
  have yX:=s.sub eQ (by simp)
  have Ba:∀H:au,J H eC->(∀b,H b->G b)->J H Fy/\∀b,H b->bI.heap[b]? =u.heap[b]? :=fun H Qd VC=>
    ⟨mj H (fun b hb h1=>Qd b hb (bM b h1)) (fun b hb=>cM b (VC b hb)),fun b hb=>hu b (cM b (VC b hb)) fun h1=>Qd b hb (bM b h1)⟩
  obtain⟨iq,G1⟩:=Ba cH d0 ga
  obtain⟨ct,mI⟩:=Ba cE d1 s1
  obtain⟨cA,k_⟩:=Ba cT d2 s2
  obtain⟨fe,W2⟩:=Ba c1 d3 nr
  obtain⟨xx,W3⟩:=Ba eQ d5 yX
  have ac8:∀b,Fy b->G b\/(Fy b/\¬N b):=fun b hb=>by
    by_cases hN:N b
    · refine .inl (Ci b (bM b ?_))
      refine Classical.byContradiction fun cX=>mj (fun c=>c=b) (fun c hc h1=>cX (hc▸h1)) (fun c hc=>hc▸hN) b rfl hb
    · exact .inr ⟨hb,hN⟩
  refine⟨fun b=>G b\/Fy b,⟨cH,cE,cT,c1,Fy,eQ,GT.b8 dx fun b hb _=>G1 b hb,GT.b8 cm fun b hb _=>mI b hb,GT.b8 a8 fun b hb _=>k_ b hb,GT.b8 b4 fun b hb _=>W2 b hb,hl,GT.b8 dK fun b hb _=>W3 b hb,⟨fun H bC b hb=>?_,?_⟩,f0,f1,f2⟩,fun b hb=>hb.elim .inl (ac8 b)⟩
  · simp only [List.mem_cons,List.not_mem_nil,or_false] at bC
    rcases bC with rfl|rfl|rfl|rfl|rfl|rfl
    · exact .inl (ga b hb)
    · exact .inl (s1 b hb)
    · exact .inl (s2 b hb)
    · exact .inl (nr b hb)
    · exact .inr hb
    · exact .inl (yX b hb)
  · have:=s.cq
    simp only [List.pairwise_cons,List.mem_cons,List.not_mem_nil,or_false,forall_eq_or_imp,forall_eq,false_imp_iff,implies_true,and_true,List.Pairwise.nil] at this ⊢
    obtain⟨⟨akv,F3,V4,aqf,akE⟩,⟨akO,akR,aqj,akS⟩,⟨akU,aqu,akY⟩,⟨v4,akk⟩,t5⟩:=this
    exact⟨⟨akv,F3,V4,iq,akE⟩,⟨akO,akR,ct,akS⟩,⟨akU,cA,akY⟩,⟨fe,akk⟩,xx.symm⟩
theorem aj.G2 {σ:b1} {ops:Array Oper} {di:Act->World->Prop} {i:Nat} (S:aj P n w0 M u N β σ a w) {xs:List aO} {p:aC aO} {F:au} (o:ad w0 M u N F xs p) {bj:List Int} {q:aC Int} (k:Nat) (hy:sO u N bj q) {by' lx ly:Nat} {d:Tmp} (hk:k<xs.length) (hl:(el xs k).outs.length+bj.length<=b7)
    (K:∀a0 w' aA r Fy,aj P n w0 M w' aA β ⟨(d,.v (R ((el xs k).outs++bj).length r.1))::σ.env,σ.aM⟩ a0 w'->(∀b,N b->¬F b->aA b/\w'.heap[b]? =u.heap[b]?)->ad w0 M w' aA F xs p->sO w' aA ((el xs k).outs++bj) r->
      (∀G,GT.own b7 G w' (el xs k) (p.2 k)->(∀b,G b->F b)->∃gJ,GT.own b7 gJ w' ({el xs k with outs:=(el xs k).outs++bj}:aO) {p.2 k with outs:=r}/\∀b,gJ b->G b\/Fy b)->(∀G:au,(∀b,G b->N b)->J G Fy)->(∀b,Fy b->aA b)->(∀b,Fy b->w0.heap.size<=b\/M b)->
      di a0 w')
    (hlx:lx=(el xs k).outs.length:=by rfl) (hly:ly=bj.length:=by rfl) (hop:rG P n ops i σ=some (R lx (p.2 k).outs.1,R ly q.1,1,by',d):=by kernel_rfl):wpOp P ops Q i di a w:=by
  subst hlx hly
  have bM:g1 b7 F u xs p:=o.own
  obtain⟨G,cm,a8,b4⟩:=bM.el
  have qa:p.1.nil=false:=bM.Bm (Nat.lt_of_lt_of_le (Nat.lt_of_le_of_lt (Nat.zero_le _) hk) bM.cap)
  obtain⟨x8,mm⟩:=bM.row qa
  have Rj:=cm k hk
  have acu:=Rj
  obtain⟨cH,cE,cT,c1,eC,eQ,_,_,_,_,cB,_,s,_,_,_⟩:=acu
  have h1:∀b,One (p.2 k).outs.1 b->G k b:=fun b hb=>s.sub eC (by simp) b (one_sub cB b hb)
  have IE:∀b,One (p.2 k).outs.1 b->F b:=fun b hb=>(a8 k hk b (h1 b hb)).1
  have tG:ad w0 M u N (One (p.2 k).outs.1) (el xs k).outs (p.2 k).outs:=⟨ahY cB,fun b hb=>o.sub b (IE b hb),fun b hb=>o.dJ b (IE b hb)⟩
  refine aj.append S tG hy (Fy:=ab) ⟨fun _=>ab,fun i hi=>(af.el hy i hi:a_ _),fun _ _ b h=>False.elim h,fun _ _ _ _ _ b h=>False.elim h⟩ (fun b _ h=>False.elim h) (fun b h=>False.elim h) (fun b h=>False.elim h) hop hl fun a0 w' aA r bW an aF b2 bl cR=>?_
  obtain⟨adO,_,he⟩:=cR
  have aei:=ahX tG.own tG.sub b2.own he
  have JU:∀b,N b->¬One (p.2 k).outs.1 b->w'.heap[b]? =u.heap[b]? :=fun b hb cX=>(aF b hb cX).2
  have mj:∀H:au,J H (One (p.2 k).outs.1)->(∀b,H b->N b)->J H bW:=fun H d1 d2=>bl H d1 (fun b _ h=>False.elim h) d2
  have I8:∀b,One (p.2 k).outs.1 b->b≠p.1.b:=fun b hb=>(a8 k hk b (h1 b hb)).2
  have cM:∀i,i<xs.length->∀b,G i b->N b:=fun i hi b hb=>o.sub b (a8 i hi b hb).1
  have hold:ad w0 M w' aA F xs p:=by
    refine⟨?_,fun b hb=>adO b (o.sub b hb),o.dJ⟩
    have ay:w'.heap[p.1.b]? =u.heap[p.1.b]? :=JU _ (o.sub _ x8) fun hb=>I8 _ hb rfl
    refine(⟨bM.le,bM.cap,bM.o5,bM.null,fun z=>?_,fun i hi=>(bM.cell i hi).uw ay,fun i=>if i=k then(fun b=>G k b\/(One (p.2 k).outs.1 b/\¬N b)) else G i,fun i hi=>?_,fun i hi b hb=>?_,fun i j hi b0 kE=>?_⟩:g1 b7 F w' xs p)
    · obtain⟨h1,cs,T,an,aF⟩:=bM.row z
      exact⟨h1,cs,T,ay.trans an,aF⟩
    · by_cases e:i=k
      · subst e
        simp only [if_true]
        obtain⟨gJ,ct,cA⟩:=TW (x:=el xs i) (p:=p.2 i) Rj aei (cM i hk) JU (fun H d1 _=>d1)
        exact GT.fK ct (Nat.le_refl _) cA
      · simp only [e,if_false]
        exact GT.b8 (cm i hi) fun b hb _=>JU b (cM i hi b hb) fun eN=>b4 i k hi hk e b hb (h1 b eN)
    · by_cases e:i=k
      · subst e
        simp only [if_true] at hb
        rcases hb with hb|hb
        · exact a8 i hi b hb
        · exact absurd (tG.sub b hb.1) hb.2
      · simp only [e,if_false] at hb
        exact a8 i hi b hb
    · intro b hb eN
      have fix:∀i,i<xs.length->(if i=k then(fun b=>G k b\/(One (p.2 k).outs.1 b/\¬N b)) else G i) b->G i b:=fun i hi hb=>by
        by_cases e:i=k
        · subst e
          simp only [if_true] at hb
          exact hb.elim id fun hb=>absurd (tG.sub b hb.1) hb.2
        · simp only [e,if_false] at hb
          exact hb
      exact b4 i j hi b0 kE b (fix i hi hb) (fix j b0 eN)
  refine K a0 w' aA r (fun b=>bW b/\¬N b) (by rw [List.length_append];exact an) (fun b hb cX=>aF b hb fun h=>cX (IE b h)) hold b2.ak (fun H bC hs=>?_) (fun H hs b hb h=>h.2 (hs b hb)) (fun b hb=>b2.sub b hb.1) (fun b hb=>b2.dJ b hb.1)
  exact TW (u:=w') bC b2.own (fun b hb=>o.sub b (hs b hb)) (fun _ _ _=>rfl) mj
def GW {α:Type} [GT α] (F:au) (p:aC α) (w:World) (wM:List α) (e:Ending) (w':World):Prop:=
  ∃(cw:Nat->GT.Ptr α) (bW:au),e= .returned (packed [])/\bu F w w'/\GT.own b7 bW w' wM ((p.1,cw):aC α)/\(∀b,bW b->F b\/(w.heap.size<=b/\b<w'.heap.size))
theorem aj.WL {α:Type} [GT α] {bR:dp} {F:au} {xs wM:List α} {p:aC α} (S:aj P n w0 M u N β bR.σ a w) (o:ad w0 M u N F xs p) {f:FuncId} {eG:List Value} {d:Tmp} (hc:Calls P f eG.toArray w (GW F p w wM))
    (K:∀k_ w' aA cw bW,aj P n w0 M w' aA β (bR.put d (packed [])).σ k_ w'->(∀b,N b->¬F b->aA b/\w'.heap[b]? =u.heap[b]?)->ad w0 M w' aA bW wM ((p.1,cw):aC α)->(∀G:au,J G F->(∀b,G b->N b)->J G bW)->dW P Q (bR.put d (packed [])) k_ w')
    (hcall:kv P n bR.cF.opsOf bR.cF.idx bR.σ=some (f,eG,d):=by kernel_rfl) (hd:Nat.blt d n=true:=by kernel_rfl) (ca:bR.cF.kG=true:=by kernel_rfl):dW P Q bR a w:=
  ⟨lo (S.call hcall hc fun _ w' ⟨cw,bW,he,ff,bM,bf⟩=>⟨_,he,(K _ w' _ cw bW ((S.qE ff o.sub o.dJ).put (vV hd) (fun _ _ e=>by cases e)) (S.bw ff)
    ⟨bM,fun b h=>(bf b h).elim (fun h=> .inl (o.sub b h)) .inr,fun b h=>(bf b h).elim (o.dJ b) (fun h=> .inl (Nat.le_trans S.fp.size h.1))⟩
    (fun G cm a8 b h1 an=>(bf b an).elim (cm b h1) (fun h=>by have:=(S.sep b (a8 b h1)).1;omega))).ok⟩) ca⟩
theorem M5 {α:Type} [GT α] {σ:b1} {F bW:au} {wM x:List α} {p:aC α} {cw:Nat->GT.Ptr α} (S:aj P n w0 F u N β σ a w) (h:wM=x) (o:ad w0 F u N bW x ((p.1,cw):aC α)):GW F p w0 wM (.returned (packed [])) w:=by
  subst h
  exact⟨cw,bW,rfl,S.fp,GT.b8 o.own (fun b hb _=>(S.sep b (o.sub b hb)).2.1),fun b hb=>(o.dJ b hb).elim (fun h=> .inr ⟨h,(S.sep b (o.sub b hb)).1⟩) .inl⟩
end
end Go.Proofs.YtjlocpdfcanlhaaGreat
namespace Go.Proofs.YtjlocpdfcanlhaaGreat
open Go
set_option linter.unusedVariables false
theorem VH {xs:List aO} {k:Nat} (hk:k<xs.length):xs.set k ({el xs k with owned:=(el xs k).owned}:aO)=xs:=by
  show xs.set k (el xs k)=xs
  rw [p0 hk,List.set_getElem_self]
theorem aii {o i k:Int} (h:hQ o i k=1):hO i k=true:=by
  unfold hQ at h
  split at h
  · assumption
  · split at h<;>omega
theorem UM {o i k:Int} (h:¬hQ o i k=1):hO i k=false:=by
  unfold hQ at h
  split at h
  · exact absurd rfl h
  · rename_i h1;simpa using h1
variable {m:aO} {y:ax} {want:Int}
theorem aid (hw:want=5\/want=7) (h:hQ m.aX y.aN.aX (fN want)=2) (an:m.owned<1000000000):gn m y want=m.owned+1:=by
  unfold gn;rw [if_pos ⟨⟨by omega,h⟩,an⟩]
theorem L7 (h:¬hQ m.aX y.aN.aX (fN want)=2\/¬m.owned<1000000000):gn m y want=m.owned:=by
  unfold gn;rw [if_neg (fun h1=>h.elim (fun h=>h h1.1.2) (fun h=>h h1.2))]
theorem akg (hw:want=5\/want=7) (h:hO y.aN.aX (fN want)=true):dN y y.aN.aX want=(mh y want,false):=by
  rcases hw with e|e<;>subst e
  · have h:hO y.aN.aX 1=true:=h
    unfold dN mh;rw [if_neg (by decide),if_pos ⟨rfl,h⟩,if_pos rfl]
  · have h:hO y.aN.aX 2=true:=h
    unfold dN mh;rw [if_neg (by decide),if_neg (by rintro⟨h,-⟩;exact absurd h (by decide)),if_pos ⟨rfl,h⟩,if_neg (by decide)]
theorem VY (hw:want=5\/want=7) (h:hO y.aN.aX (fN want)=false):dN y y.aN.aX want=(if want=7 then jA y else a4 y,true):=by
  rcases hw with e|e<;>subst e
  · have h:hO y.aN.aX 1=false:=h
    unfold dN;rw [if_neg (by decide),if_neg (by rw [h];simp),if_neg (by rintro⟨h,-⟩;exact absurd h (by decide)),if_neg (by decide),if_neg (by decide)]
  · have h:hO y.aN.aX 2=false:=h
    unfold dN;rw [if_neg (by decide),if_neg (by rintro⟨h,-⟩;exact absurd h (by decide)),if_neg (by rw [h];simp),if_pos rfl,if_pos rfl]
theorem af1 {xs:List aO} {k:Nat} {g:Int} (hw:want=5\/want=7) (h:hQ m.aX y.aN.aX (fN want)=1):xs.set k (jr m g y want)=xs.set k ({m with U:=m.U.set g.toNat (mh y want)}:aO):=by
  unfold jr lg
  rw [akg hw (aii h),L7 (.inl (by omega)),if_neg (fun h=>by have:=h.1.1;cases this)]
theorem afZ {xs X:List aO} {k:Nat} {g gq:Int} (fP:X=xs.set k ({el xs k with owned:=gq}:aO)) (he:el X k=({el xs k with owned:=gq}:aO)) (bM:gq=gn (el xs k) y want) (h:¬hQ (el xs k).aX y.aN.aX (fN want)=1) (hw:want=7):
    xs.set k (jr (el xs k) g y want)=X.set k ({el X k with U:=(el X k).U.set g.toNat (jA y)}:aO):=by
  rw [he,fP,List.set_set]
  unfold jr lg
  rw [VY (.inr hw) (UM h),←bM,if_pos hw,if_neg (fun h=>by have:=h.1.2;omega)]
theorem af0 {xs X:List aO} {k:Nat} {g gq:Int} {os:List Int} (fP:X=xs.set k ({el xs k with owned:=gq,outs:=os}:aO)) (he:el X k=({el xs k with owned:=gq,outs:=os}:aO)) (bM:gq=gn (el xs k) y want) (h:¬hQ (el xs k).aX y.aN.aX (fN want)=1) (hw:want=5)
    (JN:os=if(el xs k).outs.length<40 then(el xs k).outs++[(bF y.prog y.aw).x] else(el xs k).outs):
    xs.set k (jr (el xs k) g y want)=X.set k ({el X k with U:=(el X k).U.set g.toNat (a4 y)}:aO):=by
  rw [he,fP,List.set_set]
  unfold jr lg
  rw [VY (.inl hw) (UM h),←bM,if_neg (by omega)]
  have e:(if((true=true/\want=5)/\(el xs k).outs.length<40) then(el xs k).outs++[(bF y.prog y.aw).x] else(el xs k).outs)=os:=by
    rw [JN]
    by_cases h:(el xs k).outs.length<40
    · rw [if_pos h,if_pos ⟨⟨rfl,hw⟩,h⟩]
    · rw [if_neg h,if_neg (fun h1=>h h1.2)]
  simp only at e ⊢
  rw [e]
theorem kk {w0 u:World} {M N F:au} {X xs:List aO} {lq:l8} {iF:Nat->fj} {k g:Nat} {g8:fj} (o:ad w0 M u N F X ((lq,iF):aC aO)) (he:(el X k).U=(el xs k).U) (bD:(iF k).U=g8.U) (hk:k<X.length) (aJ:g<(el xs k).U.length):
    GT.rd b7 N u (el (el xs k).U g) (g8.U.2 g):=by
  have h1:GT.rd b7 N u (el X k).U (iF k).U:=aU.U (d:=el X k) (af.el o.ak k hk)
  rw [he,bD] at h1
  exact af.el h1 g aJ
section
variable {h:ah} {m g:Int}
theorem Ed (e:eD h=false):dt h m g=(h,false):=ow (.inl (by unfold mf;rw [e];rfl))
theorem akp {x a b:Int} (e:¬(a<=x/\x<=b)):a3 x a b=false:=by
  cases h:a3 x a b with
  |false=>rfl
  |true=>exact absurd (cU h) e
theorem Ee (e:(aK h m).2=false):dt h m g=(h,false):=by
  have h1:=TV e
  refine ow (.inl ?_)
  unfold mf
  rw [akp (fun an=>h1 (by omega)),Bool.and_false,Bool.false_and]
theorem Ef (cA:(aK h m).2=true) (e:a3 g 0 (((aK h m).1.U.length:Int)-1)=false):dt h m g=(h,false):=by
  rw [vW (tw cA)] at e
  refine ow (.inl ?_)
  unfold mf
  rw [e,Bool.and_false]
theorem Eg (cA:(aK h m).2=true) (e:bZ (el (aK h m).1.U g.toNat)=0):dt h m g=(h,false):=by
  rw [vW (tw cA)] at e
  exact ow (.inr e)
theorem Eh (ct:eD h=true) (cA:(aK h m).2=true) (fe:a3 g 0 (((aK h m).1.U.length:Int)-1)=true):mf h m g=true:=by
  have h1:=tw cA
  rw [vW h1] at fe
  unfold mf
  rw [ct,fe,show a3 m 0 ((h.I.length:Int)-1)=true from by unfold a3;simp;omega]
  rfl
theorem yr (ct:eD h=true) (cA:(aK h m).2=true) (fe:a3 g 0 (((aK h m).1.U.length:Int)-1)=true) (pY:¬bZ (el (aK h m).1.U g.toNat)=0):
    dt h m g=(rS h m g (el (aK h m).1.U g.toNat) (bZ (el (aK h m).1.U g.toNat)),true):=by
  have h1:=Eh ct cA fe
  rw [vW (tw cA)] at pY ⊢
  exact qb h1 pY
theorem SS (ct:eD h=true) (cA:(aK h m).2=true) (fe:a3 g 0 (((aK h m).1.U.length:Int)-1)=true) (hw:bZ (el (aK h m).1.U g.toNat)=5\/bZ (el (aK h m).1.U g.toNat)=7):
    dt h m g=(⟨h.mem,h.I.set m.toNat (jr (el h.I m.toNat) g (el (el h.I m.toNat).U g.toNat) (bZ (el (aK h m).1.U g.toNat))),h.buf,h.ag⟩,true):=by
  rw [yr ct cA fe (by omega),Eb (by omega) (by omega) (by omega) (by omega)]
  rw [vW (tw cA)]
  rfl
theorem FM (hm:0<=m/\m<h.I.length):(e9 h m).U=(el h.I m.toNat).U:=by unfold e9;rw [if_pos hm]
theorem SR (ct:eD h=true) (cA:(aK h m).2=true) (fe:a3 g 0 (((aK h m).1.U.length:Int)-1)=true) (hw:bZ (el (aK h m).1.U g.toNat)=1\/bZ (el (aK h m).1.U g.toNat)=2\/bZ (el (aK h m).1.U g.toNat)=6):
    dt h m g=(⟨h.mem,h.I.set m.toNat ({el h.I m.toNat with U:=(eS (e9 h m) g).1.U}:aO),h.buf,h.ag⟩,true):=by
  have hm:=tw cA
  have aJ:=(FU (Eh ct cA fe)).2.2
  rw [yr ct cA fe (by omega)]
  rw [vW hm] at hw ⊢
  have aaR:eS (e9 h m) g=(mQ (e9 h m) g (el (el h.I m.toNat).U g.toNat) (bZ (el (el h.I m.toNat).U g.toNat)),true):=by
    unfold eS
    rw [FM hm,if_pos ⟨ajP ct hm,aJ,by omega⟩]
  rw [aaR]
  rcases hw with hw|hw|hw
  · rw [JO hw,CZ hw,FM hm];rfl
  · rw [JP hw,C0 hw,FM hm];rfl
  · rw [Eb (by omega) (by omega) (by omega) (by omega),E8 hw,FM hm]
    unfold s6 jr dN lg gn
    rw [if_pos hw,if_neg (fun h=>by omega),if_neg (fun h=>h.1.1 hw)]
end
end Go.Proofs.YtjlocpdfcanlhaaGreat
namespace Go.Proofs.YtjlocpdfcanlhaaGreat
open Go
set_option linter.unusedVariables false
def GE (h cl:ah):Prop:=cl.I.length=h.I.length/\∀k,(el cl.I k).U=(el h.I k).U
theorem GE.g0 (h:ah):GE h h:=⟨rfl,fun _=>rfl⟩
theorem GE.iK {a b c:ah} (h:GE a b) (cl:GE b c):GE a c:=⟨cl.1.trans h.1,fun k=>(cl.2 k).trans (h.2 k)⟩
theorem QA (xs:List aO) (i k:Nat) (x:aO) (e:x.U=(el xs i).U):(el (xs.set i x) k).U=(el xs k).U:=by
  by_cases hi:i<xs.length
  · rw [H0 _ _ _ _ hi];split
    · rename_i h;subst h;exact e
    · rfl
  · rw [List.set_eq_of_length_le (by omega)]
theorem GE.m (h:ah) (m:Nat) (x:aO) (a:List (List Int)) (b c:List aG) (e:x.U=(el h.I m).U):GE h ⟨a,h.I.set m x,b,c⟩:=⟨List.length_set,fun k=>QA _ _ _ _ e⟩
theorem GE.Co {a h:ah} (g:GE a h) (m:Int) (x:aO) (e:x.U=(el h.I m.toNat).U):GE a (j9 h m x):=g.iK (GE.m _ _ _ _ _ _ e)
theorem GE.slot {a h:ah} (g:GE a h) (m page:Int) (s:aQ):GE a (gK h m page s):=g.iK (GE.m _ _ _ _ _ _ rfl)
theorem GE.send (h:ah) (m page:Int):GE h (iu h m page):=by unfold iu;exact GE.slot (GE.Co (GE.g0 h) _ _ (by rfl)) _ _ _
theorem GE.put (h:ah) (m page:Int):GE h (o9 h m page):=by
  unfold o9;refine GE.slot ?_ _ _ _;exact GE.m _ _ _ _ _ _ rfl
theorem GE.room (h:ah):GE h (j8 h):=by
  unfold j8;split
  · exact GE.g0 _
  · exact GE.send _ _ _
theorem GE.mid (h:ah) (m page:Int):GE h (hz h m page):=by
  unfold hz;split
  · exact(GE.room h).iK (GE.put _ _ _)
  · exact GE.g0 _
theorem GE.wr (h:ah) (m page:Int):GE h (qP h m page):=by
  unfold qP;split
  · exact GE.Co (GE.g0 h) _ _ (by rfl)
  · exact GE.slot (GE.Co (GE.g0 h) _ _ (by rfl)) _ _ _
theorem GE.agc (h:ah) (m page need:Int):GE h (gm h m page need):=by
  unfold gm;split
  · exact(GE.mid _ _ _).iK (GE.wr _ _ _)
  · exact GE.mid _ _ _
theorem GE.io (h:ah) (b:Bool) (e:aG):GE h (xI h b e):=⟨by unfold xI;split<;>rfl,fun k=>by unfold xI;split<;>rfl⟩
theorem GE.to (h:ah) (m g page need q:Int) (io:Bool):GE h (mV h m g page need q io).1:=by
  unfold mV;split
  · exact GE.g0 _
  · split
    · unfold rT DB;refine GE.iK (GE.Co (GE.agc h m q need) m _ ?_) (GE.io _ _ _);rfl
    · exact GE.io _ _ _
theorem TT (h:ah) (m g page need:Int) (io:Bool):GE h (cL h m g page need io).1:=by
  unfold cL;split
  · refine GE.iK ?_ (GE.to _ _ _ _ _ _ _)
    unfold j5;split
    · unfold qM;exact GE.Co (GE.g0 h) _ _ (by rfl)
    · exact GE.g0 _
  · exact GE.g0 _
theorem pw {h Y:ah} {m g page need:Int} {io:Bool} {k:Nat} (hY:Y=(cL h m g page need io).1):(el Y.I k).U=(el h.I k).U:=by
  subst hY;exact(TT h m g page need io).2 k
theorem FP {X xs:List aO} {k:Nat} {y:List ax} (h:X=xs.set k {el xs k with U:=y}) (hk:k<xs.length) (hy:y.length=(el xs k).U.length):(X.length=xs.length/\(el X k).outer.length=(el xs k).outer.length/\(el X k).out.length=(el xs k).out.length/\(el X k).aT.length=(el xs k).aT.length/\(el X k).U.length=(el xs k).U.length/\(el X k).outs.length=(el xs k).outs.length/\(el X k).tables.length=(el xs k).tables.length)/\el X k={el xs k with U:=y}:=by
  subst h;rw [dS hk];exact⟨⟨List.length_set,rfl,rfl,rfl,hy,rfl,rfl⟩,rfl⟩
section
variable {h Y:ah} {m g:Int} {x:ax} {wr:Bool} {X:List aO}
theorem akd (hY:Y=(cL h m g (cr (bm x)) (dB wr) false).1) (e:(cL h m g (cr (bm x)) (dB wr) false).2.2=false) (fP:X=Y.I.set m.toNat ({el Y.I m.toNat with U:=(el Y.I m.toNat).U.set g.toNat {x with exit:=gU (cr (bm x)) wr}}:aO)):mg h m g x wr=⟨Y.mem,X,Y.buf,Y.ag⟩:=by
  unfold mg mb;rw [if_pos e,←hY,fP];rfl
theorem ake (hY:Y=(cL h m g (cr (bm x)) (dB wr) false).1) (e:(cL h m g (cr (bm x)) (dB wr) false).2.2=true) (hw:wr=true) (fP:X=Y.I.set m.toNat ({el Y.I m.toNat with U:=(el Y.I m.toNat).U.set g.toNat (a4 x)}:aO)):mg h m g x wr=⟨gf Y.mem (cL h m g (cr (bm x)) (dB wr) false).2.1 (dr (bm x)) x.acc,X,Y.buf,Y.ag⟩:=by
  unfold mg mb;rw [if_neg (by rw [e];decide),if_pos hw,←hY,fP];rfl
theorem akc (hY:Y=(cL h m g (cr (bm x)) (dB wr) false).1) (e:(cL h m g (cr (bm x)) (dB wr) false).2.2=true) (hw:wr=false) (fP:X=Y.I.set m.toNat ({el Y.I m.toNat with U:=(el Y.I m.toNat).U.set g.toNat (h5 x (fB Y.mem (cL h m g (cr (bm x)) (dB wr) false).2.1 (dr (bm x))))}:aO)):mg h m g x wr=⟨Y.mem,X,Y.buf,Y.ag⟩:=by
  unfold mg mb;rw [if_neg (by rw [e];decide),if_neg (by rw [hw];decide),←hY,fP];rfl
end
section
variable {xs e1 X:List aO} {k:Nat} {x:ax} {want t:Int}
theorem Fk (hc:(((want != 6)&&(hQ (el xs k).aX x.aN.aX t==2))&&decide ((el xs k).owned<1000000000))=true) (bs:t=fN want):xs.set k ({el xs k with owned:=(el xs k).owned+1}:aO)=xs.set k ({el xs k with owned:=gn (el xs k) x want}:aO):=by
  subst bs
  simp only [Bool.and_eq_true,bne_iff_ne,ne_eq,beq_iff_eq,decide_eq_true_eq] at hc
  unfold gn;rw [if_pos hc]
theorem Fg (hc:(((want != 6)&&(hQ (el xs k).aX x.aN.aX t==2))&&decide ((el xs k).owned<1000000000))=false) (bs:t=fN want):xs=xs.set k ({el xs k with owned:=gn (el xs k) x want}:aO):=by
  subst bs
  have Jf:¬((¬want=6/\hQ (el xs k).aX x.aN.aX (fN want)=2)/\(el xs k).owned<1000000000):=fun h=>by
    rw [Bool.eq_false_iff] at hc;apply hc
    simp only [Bool.and_eq_true,bne_iff_ne,ne_eq,beq_iff_eq,decide_eq_true_eq];exact h
  unfold gn;rw [if_neg Jf];exact y3.symm
theorem Fl (h1:¬want=6) (an:hQ (el xs k).aX x.aN.aX t=2) (aF:(el xs k).owned<1000000000) (bs:t=fN want):xs.set k ({el xs k with owned:=(el xs k).owned+1}:aO)=xs.set k ({el xs k with owned:=gn (el xs k) x want}:aO):=by
  subst bs;unfold gn;rw [if_pos ⟨⟨h1,an⟩,aF⟩]
theorem L8 (hc:¬((¬want=6/\hQ (el xs k).aX x.aN.aX (fN want)=2)/\(el xs k).owned<1000000000)):xs=xs.set k ({el xs k with owned:=gn (el xs k) x want}:aO):=by
  unfold gn;rw [if_neg hc];exact y3.symm
theorem Fh (h1:want=6):xs=xs.set k ({el xs k with owned:=gn (el xs k) x want}:aO):=L8 fun h=>h.1.1 h1
theorem Fi (an:¬hQ (el xs k).aX x.aN.aX t=2) (bs:t=fN want):xs=xs.set k ({el xs k with owned:=gn (el xs k) x want}:aO):=L8 fun h=>an (bs▸h.1.2)
theorem Fj (aF:¬(el xs k).owned<1000000000):xs=xs.set k ({el xs k with owned:=gn (el xs k) x want}:aO):=L8 fun h=>aF h.2
theorem Fe (gO:e1=xs.set k ({el xs k with owned:=gn (el xs k) x want}:aO)) (h1:(dN x x.aN.aX want).2=true) (an:want=5) (aF:(((el e1 k).outs.length:Nat):Int)<40) (hk:k<xs.length:=by omega):
    e1.set k ({el e1 k with outs:=(el e1 k).outs++[(bF x.prog x.aw).x]}:aO)=xs.set k ({el xs k with owned:=gn (el xs k) x want,outs:=lg (el xs k) x want}:aO):=by
  rw [gO,dS hk] at aF ⊢;rw [List.set_set]
  unfold lg;rw [if_pos ⟨⟨h1,an⟩,by simp only at aF;omega⟩]
theorem LZ (gO:e1=xs.set k ({el xs k with owned:=gn (el xs k) x want}:aO)) (hc:¬(((dN x x.aN.aX want).2=true/\want=5)/\(el e1 k).outs.length<40)) (hk:k<xs.length:=by omega):
    e1=xs.set k ({el xs k with owned:=gn (el xs k) x want,outs:=lg (el xs k) x want}:aO):=by
  have e:(el e1 k).outs=(el xs k).outs:=by rw [gO,dS hk]
  rw [e] at hc
  unfold lg;rw [if_neg hc];exact gO
theorem E_ (gO:e1=xs.set k ({el xs k with owned:=gn (el xs k) x want}:aO)) (h1:(dN x x.aN.aX want).2=false) (hk:k<xs.length:=by omega):
    e1=xs.set k ({el xs k with owned:=gn (el xs k) x want,outs:=lg (el xs k) x want}:aO):=LZ gO (fun h=>by rw [h1] at h;cases h.1.1) hk
theorem Fa (gO:e1=xs.set k ({el xs k with owned:=gn (el xs k) x want}:aO)) (h1:¬want=5) (hk:k<xs.length:=by omega):
    e1=xs.set k ({el xs k with owned:=gn (el xs k) x want,outs:=lg (el xs k) x want}:aO):=LZ gO (fun h=>h1 h.1.2) hk
theorem Fb (gO:e1=xs.set k ({el xs k with owned:=gn (el xs k) x want}:aO)) (h1:¬(((el e1 k).outs.length:Nat):Int)<40) (hk:k<xs.length:=by omega):
    e1=xs.set k ({el xs k with owned:=gn (el xs k) x want,outs:=lg (el xs k) x want}:aO):=LZ gO (fun h=>h1 (by omega)) hk
theorem BH {o:Int} (gO:e1=xs.set k ({el xs k with owned:=o}:aO)):(el e1 k).U=(el xs k).U:=by
  subst gO;exact QA _ _ _ _ rfl
theorem aie {o:Int} (gO:e1=xs.set k ({el xs k with owned:=o}:aO)) (hk:k<xs.length):e1.length=xs.length/\(el e1 k).U.length=(el xs k).U.length/\(el e1 k).outs.length=(el xs k).outs.length:=by
  subst gO;rw [dS hk];exact⟨List.length_set,rfl,rfl⟩
theorem ah_ {o:Int} {os:List Int} (gO:e1=xs.set k ({el xs k with owned:=o,outs:=os}:aO)) (hk:k<xs.length):e1.length=xs.length/\(el e1 k).U.length=(el xs k).U.length:=by
  subst gO;rw [dS hk];exact⟨List.length_set,rfl⟩
theorem Fc (gO:e1=xs.set k ({el xs k with owned:=gn (el xs k) x want}:aO)) (fP:X=e1.set k ({el e1 k with outs:=(el e1 k).outs++[(bF x.prog x.aw).x]}:aO)) (hc:(((dN x x.aN.aX want).2&&(want==5))&&decide ((el e1 k).outs.length<40))=true) (hk:k<xs.length:=by omega):
    X=xs.set k ({el xs k with owned:=gn (el xs k) x want,outs:=lg (el xs k) x want}:aO):=by
  simp only [Bool.and_eq_true,beq_iff_eq,decide_eq_true_eq] at hc
  subst fP;rw [gO,dS hk] at hc ⊢;rw [List.set_set]
  unfold lg;rw [if_pos hc]
theorem E9 (gO:e1=xs.set k ({el xs k with owned:=gn (el xs k) x want}:aO)) (hc:(((dN x x.aN.aX want).2&&(want==5))&&decide ((el e1 k).outs.length<40))=false) (hk:k<xs.length:=by omega):
    e1=xs.set k ({el xs k with owned:=gn (el xs k) x want,outs:=lg (el xs k) x want}:aO):=by
  have Jf:¬(((dN x x.aN.aX want).2=true/\want=5)/\(el xs k).outs.length<40):=fun h=>by
    rw [Bool.eq_false_iff] at hc;apply hc
    simp only [Bool.and_eq_true,beq_iff_eq,decide_eq_true_eq]
    rw [gO,dS hk];exact h
  unfold lg;rw [if_neg Jf];exact gO
theorem akf {h:ah} {m g:Int} {x:ax} {e1 X:List aO} (gO:e1=h.I.set m.toNat ({el h.I m.toNat with owned:=gn (el h.I m.toNat) x want,outs:=lg (el h.I m.toNat) x want}:aO))
    (fP:X=e1.set m.toNat ({el e1 m.toNat with U:=(el e1 m.toNat).U.set g.toNat (dN x x.aN.aX want).1}:aO)) (hk:m.toNat<h.I.length:=by omega):s6 h m (jr (el h.I m.toNat) g x want)=⟨h.mem,X,h.buf,h.ag⟩:=by
  subst fP;rw [gO,dS hk,List.set_set];rfl
end
theorem aeH (h:ah) (m g:Int):(dt h m g).1.I.length=h.I.length:=by
  unfold dt
  split
  · simp only
    generalize el (el h.I m.toNat).U g.toNat=x
    generalize bZ x=want
    unfold rS p3 s6
    repeat' split
    · exact List.length_set
    · exact List.length_set
    · have e:=(TT h m g (cr (bm x)) (dB (want==4)) false).1
      unfold mg p3 mb
      repeat' split
      all_goals exact List.length_set.trans e
    · exact List.length_set
  · rfl
theorem aj3 {F:au} {w:World} {X:ah} {q:cb} (bn:GT.rd b7 F w X q) (hm:X.I.length<=3):aS.aW X<=9000000000000000:=by
  have h0:=ee.jn (bz.mem (d:=X) bn)
  have an:=ee.jn (bz.buf (d:=X) bn)
  have aF:=ee.jn (bz.ag (d:=X) bn)
  have h1:=Nx (m:=ee.B aO) X.I fun y hy=>by
    obtain⟨i,hi,rfl⟩:=List.getElem_of_mem hy
    have:=af.el (bz.I (d:=X) bn) i hi
    rw [p0 hi] at this
    exact ee.jn this
  have o1:ee.B (List (List Int))<=20000000000000:=by decide
  have hv:ee.B aO<=500000000000000:=by decide
  have nx:ee.B (List aG)<=5000000:=by decide
  have b2:X.I.length*ee.B aO<=3*500000000000000:=Nat.mul_le_mul hm hv
  have bl:=ns X.I
  unfold g9 at bl
  rw [Cs]
  omega
theorem aj4 {F:au} {w:World} {q:cb} (h:ah) (m g:Int) (bn:GT.rd b7 F w (dt h m g).1 q):aS.aW (dt h m g).1<=aS.aW h+9000000000000000:=by
  by_cases e:mf h m g=true
  · have h1:=aj3 bn (by rw [aeH];exact(r_ (FU e).1).2.1)
    omega
  · rw [ow (.inl (by simpa using e))];simp only;omega
end Go.Proofs.YtjlocpdfcanlhaaGreat
namespace Go.Proofs.YtjlocpdfcanlhaaGreat
open Go
set_option linter.unusedVariables false
def de (p cw:Nat->fj):Prop:=∀i,(cw i).U=(p i).U
theorem de.g0 (p:Nat->fj):de p p:=fun _=>rfl
theorem de.iK {p q r:Nat->fj} (h:de p q) (cl:de q r):de p r:=fun i=>(cl i).trans (h i)
theorem de.st {p:Nat->fj} {k:Nat} {q:fj} (h:q.U=(p k).U):de p (fun i=>if i=k then q else p i):=fun i=>by
  by_cases e:i=k
  · subst e;simp only [if_true];exact h
  · simp only [if_neg e]
section
variable {w0:World} {M:au} {u:World} {N:au}
theorem Q5 {xs:List aO} {p:aC aO} {F:au} (o:ad w0 M u N F xs p) {k:Nat} (hk:k<xs.length):
    ∃
      H:au,ad w0 M u N H (el xs k).outer (p.2 k).outer/\(∀b,H b->F b)/\∀(bI:World) (aA:au) (y:List aQ) (q:GT.Ptr (List aQ)) (cI Fy:au),(∀b,N b->¬H b->aA b/\bI.heap[b]? =u.heap[b]?)->ad w0 M bI aA cI y q->(∀b,cI b->H b\/Fy b)->J F Fy->GT.cells y q=GT.cells (el xs k).outer (p.2 k).outer->(∀b,H b->aA b)->
      ∃cw,ad w0 M bI aA (Or F cI) (xs.set k {el xs k with outer:=y}) (p.1,cw)/\(∀j,GT.cells (el (xs.set k {el xs k with outer:=y}) j) (cw j)=GT.cells (el xs j) (p.2 j))/\de p.2 cw:=by
  obtain⟨H,h1,an,aF⟩:=o.xL hk (fun x=>x.outer) (fun r=>r.outer) (fun x y=>{x with outer:=y}) (fun r q=>{r with outer:=q}) fun G u x r h=>by
    obtain⟨cH,cE,cT,c1,eC,eQ,dx,cm,a8,b4,cB,dK,s,f0,f1,f2⟩:=h
    refine⟨cH,dx,s.sub _ (by simp),fun bI y q cI Fy cl hs hd hw hc=>⟨⟨cI,cE,cT,c1,eC,eQ,cl,GT.b8 cm fun b hb _=>hw b (s.sub _ (by simp) b hb) fun bC=>(cy s.cq (i:=0) (j:=1) (by decide) rfl rfl) b bC hb,GT.b8 a8 fun b hb _=>hw b (s.sub _ (by simp) b hb) fun bC=>(cy s.cq (i:=0) (j:=2) (by decide) rfl rfl) b bC hb,GT.b8 b4 fun b hb _=>hw b (s.sub _ (by simp) b hb) fun bC=>(cy s.cq (i:=0) (j:=3) (by decide) rfl rfl) b bC hb,GT.b8 cB fun b hb _=>hw b (s.sub _ (by simp) b hb) fun bC=>(cy s.cq (i:=0) (j:=4) (by decide) rfl rfl) b bC hb,GT.b8 dK fun b hb _=>hw b (s.sub _ (by simp) b hb) fun bC=>(cy s.cq (i:=0) (j:=5) (by decide) rfl rfl) b bC hb,nZ s (i:=0) rfl hs hd,f0,f1,f2⟩,?_⟩⟩
    have e:=(List.cons.inj hc).1
    show [R y.length q.1,R x.out.length r.out.1,R x.aT.length r.aT.1,R x.U.length r.U.1,R x.outs.length r.outs.1,aa x.aB,aa x.aX,R x.tables.length r.tables.1,aa x.owned]=[R x.outer.length r.outer.1,R x.out.length r.out.1,R x.aT.length r.aT.1,R x.U.length r.U.1,R x.outs.length r.outs.1,aa x.aB,aa x.aX,R x.tables.length r.tables.1,aa x.owned]
    rw [e]
  exact⟨H,h1,an,fun bI aA y q cI Fy a b c d e f=>⟨_,(aF bI aA y q cI Fy a b c d e f).1,(aF bI aA y q cI Fy a b c d e f).2,de.st rfl⟩⟩
theorem Q4 {xs:List aO} {p:aC aO} {F:au} (o:ad w0 M u N F xs p) {k:Nat} (hk:k<xs.length):
    ∃
      H:au,ad w0 M u N H (el xs k).out (p.2 k).out/\(∀b,H b->F b)/\∀(bI:World) (aA:au) (y:List (List Int)) (q:GT.Ptr (List (List Int))) (cI Fy:au),(∀b,N b->¬H b->aA b/\bI.heap[b]? =u.heap[b]?)->ad w0 M bI aA cI y q->(∀b,cI b->H b\/Fy b)->J F Fy->GT.cells y q=GT.cells (el xs k).out (p.2 k).out->(∀b,H b->aA b)->
      ∃cw,ad w0 M bI aA (Or F cI) (xs.set k {el xs k with out:=y}) (p.1,cw)/\(∀j,GT.cells (el (xs.set k {el xs k with out:=y}) j) (cw j)=GT.cells (el xs j) (p.2 j))/\de p.2 cw:=by
  obtain⟨H,h1,an,aF⟩:=o.xL hk (fun x=>x.out) (fun r=>r.out) (fun x y=>{x with out:=y}) (fun r q=>{r with out:=q}) fun G u x r h=>by
    obtain⟨cH,cE,cT,c1,eC,eQ,dx,cm,a8,b4,cB,dK,s,f0,f1,f2⟩:=h
    refine⟨cE,cm,s.sub _ (by simp),fun bI y q cI Fy cl hs hd hw hc=>⟨⟨cH,cI,cT,c1,eC,eQ,GT.b8 dx fun b hb _=>hw b (s.sub _ (by simp) b hb) fun bC=>(cy s.cq (i:=0) (j:=1) (by decide) rfl rfl) b hb bC,cl,GT.b8 a8 fun b hb _=>hw b (s.sub _ (by simp) b hb) fun bC=>(cy s.cq (i:=1) (j:=2) (by decide) rfl rfl) b bC hb,GT.b8 b4 fun b hb _=>hw b (s.sub _ (by simp) b hb) fun bC=>(cy s.cq (i:=1) (j:=3) (by decide) rfl rfl) b bC hb,GT.b8 cB fun b hb _=>hw b (s.sub _ (by simp) b hb) fun bC=>(cy s.cq (i:=1) (j:=4) (by decide) rfl rfl) b bC hb,GT.b8 dK fun b hb _=>hw b (s.sub _ (by simp) b hb) fun bC=>(cy s.cq (i:=1) (j:=5) (by decide) rfl rfl) b bC hb,nZ s (i:=1) rfl hs hd,f0,f1,f2⟩,?_⟩⟩
    have e:=(List.cons.inj hc).1
    show [R x.outer.length r.outer.1,R y.length q.1,R x.aT.length r.aT.1,R x.U.length r.U.1,R x.outs.length r.outs.1,aa x.aB,aa x.aX,R x.tables.length r.tables.1,aa x.owned]=[R x.outer.length r.outer.1,R x.out.length r.out.1,R x.aT.length r.aT.1,R x.U.length r.U.1,R x.outs.length r.outs.1,aa x.aB,aa x.aX,R x.tables.length r.tables.1,aa x.owned]
    rw [e]
  exact⟨H,h1,an,fun bI aA y q cI Fy a b c d e f=>⟨_,(aF bI aA y q cI Fy a b c d e f).1,(aF bI aA y q cI Fy a b c d e f).2,de.st rfl⟩⟩
theorem Q3 {xs:List aO} {p:aC aO} {F:au} (o:ad w0 M u N F xs p) {k:Nat} (hk:k<xs.length):
    ∃
      H:au,ad w0 M u N H (el xs k).aT (p.2 k).aT/\(∀b,H b->F b)/\∀(bI:World) (aA:au) (y:List Bool) (q:GT.Ptr (List Bool)) (cI Fy:au),(∀b,N b->¬H b->aA b/\bI.heap[b]? =u.heap[b]?)->ad w0 M bI aA cI y q->(∀b,cI b->H b\/Fy b)->J F Fy->GT.cells y q=GT.cells (el xs k).aT (p.2 k).aT->(∀b,H b->aA b)->
      ∃cw,ad w0 M bI aA (Or F cI) (xs.set k {el xs k with aT:=y}) (p.1,cw)/\(∀j,GT.cells (el (xs.set k {el xs k with aT:=y}) j) (cw j)=GT.cells (el xs j) (p.2 j))/\de p.2 cw:=by
  obtain⟨H,h1,an,aF⟩:=o.xL hk (fun x=>x.aT) (fun r=>r.aT) (fun x y=>{x with aT:=y}) (fun r q=>{r with aT:=q}) fun G u x r h=>by
    obtain⟨cH,cE,cT,c1,eC,eQ,dx,cm,a8,b4,cB,dK,s,f0,f1,f2⟩:=h
    refine⟨cT,a8,s.sub _ (by simp),fun bI y q cI Fy cl hs hd hw hc=>⟨⟨cH,cE,cI,c1,eC,eQ,GT.b8 dx fun b hb _=>hw b (s.sub _ (by simp) b hb) fun bC=>(cy s.cq (i:=0) (j:=2) (by decide) rfl rfl) b hb bC,GT.b8 cm fun b hb _=>hw b (s.sub _ (by simp) b hb) fun bC=>(cy s.cq (i:=1) (j:=2) (by decide) rfl rfl) b hb bC,cl,GT.b8 b4 fun b hb _=>hw b (s.sub _ (by simp) b hb) fun bC=>(cy s.cq (i:=2) (j:=3) (by decide) rfl rfl) b bC hb,GT.b8 cB fun b hb _=>hw b (s.sub _ (by simp) b hb) fun bC=>(cy s.cq (i:=2) (j:=4) (by decide) rfl rfl) b bC hb,GT.b8 dK fun b hb _=>hw b (s.sub _ (by simp) b hb) fun bC=>(cy s.cq (i:=2) (j:=5) (by decide) rfl rfl) b bC hb,nZ s (i:=2) rfl hs hd,f0,f1,f2⟩,?_⟩⟩
    have e:=(List.cons.inj hc).1
    show [R x.outer.length r.outer.1,R x.out.length r.out.1,R y.length q.1,R x.U.length r.U.1,R x.outs.length r.outs.1,aa x.aB,aa x.aX,R x.tables.length r.tables.1,aa x.owned]=[R x.outer.length r.outer.1,R x.out.length r.out.1,R x.aT.length r.aT.1,R x.U.length r.U.1,R x.outs.length r.outs.1,aa x.aB,aa x.aX,R x.tables.length r.tables.1,aa x.owned]
    rw [e]
  exact⟨H,h1,an,fun bI aA y q cI Fy a b c d e f=>⟨_,(aF bI aA y q cI Fy a b c d e f).1,(aF bI aA y q cI Fy a b c d e f).2,de.st rfl⟩⟩
theorem Q6 {xs:List aO} {p:aC aO} {F:au} (o:ad w0 M u N F xs p) {k:Nat} (hk:k<xs.length):
    ∃
      H:au,ad w0 M u N H (el xs k).tables (p.2 k).tables/\(∀b,H b->F b)/\∀(bI:World) (aA:au) (y:List bQ) (q:GT.Ptr (List bQ)) (cI Fy:au),(∀b,N b->¬H b->aA b/\bI.heap[b]? =u.heap[b]?)->ad w0 M bI aA cI y q->(∀b,cI b->H b\/Fy b)->J F Fy->GT.cells y q=GT.cells (el xs k).tables (p.2 k).tables->(∀b,H b->aA b)->
      ∃cw,ad w0 M bI aA (Or F cI) (xs.set k {el xs k with tables:=y}) (p.1,cw)/\(∀j,GT.cells (el (xs.set k {el xs k with tables:=y}) j) (cw j)=GT.cells (el xs j) (p.2 j))/\de p.2 cw:=by
  obtain⟨H,h1,an,aF⟩:=o.xL hk (fun x=>x.tables) (fun r=>r.tables) (fun x y=>{x with tables:=y}) (fun r q=>{r with tables:=q}) fun G u x r h=>by
    obtain⟨cH,cE,cT,c1,eC,eQ,dx,cm,a8,b4,cB,dK,s,f0,f1,f2⟩:=h
    refine⟨eQ,dK,s.sub _ (by simp),fun bI y q cI Fy cl hs hd hw hc=>⟨⟨cH,cE,cT,c1,eC,cI,GT.b8 dx fun b hb _=>hw b (s.sub _ (by simp) b hb) fun bC=>(cy s.cq (i:=0) (j:=5) (by decide) rfl rfl) b hb bC,GT.b8 cm fun b hb _=>hw b (s.sub _ (by simp) b hb) fun bC=>(cy s.cq (i:=1) (j:=5) (by decide) rfl rfl) b hb bC,GT.b8 a8 fun b hb _=>hw b (s.sub _ (by simp) b hb) fun bC=>(cy s.cq (i:=2) (j:=5) (by decide) rfl rfl) b hb bC,GT.b8 b4 fun b hb _=>hw b (s.sub _ (by simp) b hb) fun bC=>(cy s.cq (i:=3) (j:=5) (by decide) rfl rfl) b hb bC,GT.b8 cB fun b hb _=>hw b (s.sub _ (by simp) b hb) fun bC=>(cy s.cq (i:=4) (j:=5) (by decide) rfl rfl) b hb bC,cl,nZ s (i:=5) rfl hs hd,f0,f1,f2⟩,?_⟩⟩
    have e:=(List.cons.inj hc).1
    show [R x.outer.length r.outer.1,R x.out.length r.out.1,R x.aT.length r.aT.1,R x.U.length r.U.1,R x.outs.length r.outs.1,aa x.aB,aa x.aX,R y.length q.1,aa x.owned]=[R x.outer.length r.outer.1,R x.out.length r.out.1,R x.aT.length r.aT.1,R x.U.length r.U.1,R x.outs.length r.outs.1,aa x.aB,aa x.aX,R x.tables.length r.tables.1,aa x.owned]
    rw [e]
  exact⟨H,h1,an,fun bI aA y q cI Fy a b c d e f=>⟨_,(aF bI aA y q cI Fy a b c d e f).1,(aF bI aA y q cI Fy a b c d e f).2,de.st rfl⟩⟩
end
def rD (F:au) (ai:cb) (w:World) (r:ah) (e:Ending) (w':World):Prop:=
  ∃(q:cb) (bW:au),e= .returned (GT.val r q)/\bu F w w'/\GT.own b7 bW w' r q/\(∀b,bW b->F b\/(w.heap.size<=b/\b<w'.heap.size))/\de ai.I.2 q.I.2
def zp (F:au) (ai:cb) (w:World) (r:ah) (k:Int) (c:Bool) (e:Ending) (w':World):Prop:=
  ∃(q:cb) (bW:au),e= .returned (.tuple #[GT.val r q,aa k,B c])/\bu F w w'/\GT.own b7 bW w' r q/\a_ k/\(∀b,bW b->F b\/(w.heap.size<=b/\b<w'.heap.size))/\de ai.I.2 q.I.2
theorem rD.out {F:au} {ai:cb} {w w':World} {r:ah} {e:Ending} (h:rD F ai w r e w'):ur F F w r e w':=
  let⟨q,bW,h1,an,aF,b2,_⟩:=h;⟨q,bW,h1,an,aF,b2⟩
theorem zp.out {F:au} {ai:cb} {w w':World} {r:ah} {k:Int} {c:Bool} {e:Ending} (h:zp F ai w r k c e w'):W0 F F w r k c e w':=
  let⟨q,bW,h1,an,aF,b2,bl,_⟩:=h;⟨q,bW,h1,an,aF,b2,bl⟩
section
variable {P:Program} {n:Nat} {w0:World} {M:au} {u:World} {N:au} {β:Nat->Nat} {σ:b1} {a:Act} {w:World} {ops:Array Oper} {Q:Exit->Act->World->Prop} {di:Act->World->Prop}
theorem aj.P4 {F:au} {x:ah} {p:cb} (S:aj P n w0 M u N β σ a w) (o:ad w0 M u N F x p) {i:Nat} {f:FuncId} {eG:List Value} {d:Tmp} {r Y:ah} (hY:Y=r) (hc:Calls P f eG.toArray w (rD F p w r))
    (K:∀a0 w' aA q bW,aj P n w0 M w' aA β ⟨(d,.v (GT.val Y q))::σ.env,σ.aM⟩ a0 w'->(∀b,N b->¬F b->aA b/\w'.heap[b]? =u.heap[b]?)->ad w0 M w' aA bW Y q->(∀G:au,J G F->(∀b,G b->N b)->J G bW)->de p.I.2 (cb.I q).2->di a0 w')
    (hcall:kv P n ops i σ=some (f,eG,d):=by kernel_rfl) (hd:Nat.blt d n=true:=by kernel_rfl):wpOp P ops Q i di a w:=by
  subst hY
  exact S.call hcall hc fun _ w' ⟨q,bW,he,ff,bM,bf,aJ⟩=>⟨_,he,K _ w' _ q bW ((S.qE ff o.sub o.dJ).put (vV hd) (fun _ _ e=>by cases e)) (S.bw ff)
    ⟨bM,fun b h=>(bf b h).elim (fun h=> .inl (o.sub b h)) .inr,fun b h=>(bf b h).elim (o.dJ b) (fun h=> .inl (Nat.le_trans S.fp.size h.1))⟩
    (fun G cm a8 b h1 an=>(bf b an).elim (cm b h1) (fun h=>by have:=(S.sep b (a8 b h1)).1;omega)) aJ⟩
theorem aj.Z5 {F:au} {x:ah} {p:cb} (S:aj P n w0 M u N β σ a w) (o:ad w0 M u N F x p) {i:Nat} {f:FuncId} {eG:List Value} {d:Tmp} {r Y:ah} {k:Int} {c:Bool} (hY:Y=r) (hc:Calls P f eG.toArray w (zp F p w r k c))
    (K:∀a0 w' aA q bW,aj P n w0 M w' aA β ⟨(d,.v (.tuple #[GT.val Y q,aa k,B c]))::σ.env,σ.aM⟩ a0 w'->(∀b,N b->¬F b->aA b/\w'.heap[b]? =u.heap[b]?)->ad w0 M w' aA bW Y q->(∀G:au,J G F->(∀b,G b->N b)->J G bW)->a_ k->de p.I.2 (cb.I q).2->di a0 w')
    (hcall:kv P n ops i σ=some (f,eG,d):=by kernel_rfl) (hd:Nat.blt d n=true:=by kernel_rfl):wpOp P ops Q i di a w:=by
  subst hY
  exact S.call hcall hc fun _ w' ⟨q,bW,he,ff,bM,hk,bf,aJ⟩=>⟨_,he,K _ w' _ q bW ((S.qE ff o.sub o.dJ).put (vV hd) (fun _ _ e=>by cases e)) (S.bw ff)
    ⟨bM,fun b h=>(bf b h).elim (fun h=> .inl (o.sub b h)) .inr,fun b h=>(bf b h).elim (o.dJ b) (fun h=> .inl (Nat.le_trans S.fp.size h.1))⟩
    (fun G cm a8 b h1 an=>(bf b an).elim (cm b h1) (fun h=>by have:=(S.sep b (a8 b h1)).1;omega)) hk aJ⟩
theorem wu {F bW:au} {r x:ah} {ai p:cb} {v:Value} (S:aj P n w0 F u N β σ a w) (h:r=x) (b5:v=GT.val x p) (o:ad w0 F u N bW x p) (aJ:de ai.I.2 p.I.2):rD F ai w0 r (.returned (packed [v])) w:=by
  obtain⟨q,cc,h1,an,aF,b2⟩:=B4 S h b5 o
  subst h b5
  exact⟨p,bW,rfl,an,S.fX o,fun b hb=>(o.dJ b hb).elim (fun h=> .inr ⟨h,(S.sep b (o.sub b hb)).1⟩) .inl,aJ⟩
theorem B3 {F bW:au} {r x:ah} {k fq:Int} {c zD:Bool} {ai p:cb} {v:Value} (S:aj P n w0 F u N β σ a w) (h:r=x) (hk:k=fq) (Jh:c=zD) (b5:v=GT.val x p) (o:ad w0 F u N bW x p) (cR:a_ fq) (aJ:de ai.I.2 p.I.2):zp F ai w0 r k c (.returned (packed [v,aa fq,B zD])) w:=by
  subst h hk Jh b5
  exact⟨p,bW,rfl,S.fp,S.fX o,cR,fun b hb=>(o.dJ b hb).elim (fun h=> .inr ⟨h,(S.sep b (o.sub b hb)).1⟩) .inl,aJ⟩
end
end Go.Proofs.YtjlocpdfcanlhaaGreat
namespace Go.Proofs.YtjlocpdfcanlhaaGreat
open Go
set_option linter.unusedVariables false
section
variable {P:Program} {n:Nat} {w0:World} {M:au} {u:World} {N:au} {β:Nat->Nat} {a:Act} {w:World} {Q:Exit->Act->World->Prop}
theorem aj.zm {bR:dp} {F:au} {x:ah} {p:cb} {f:FuncId} {eG:List Value} {d:Tmp} {r Y:ah} (S:aj P n w0 M u N β bR.σ a w) (o:ad w0 M u N F x p) (hY:Y=r) (hc:Calls P f eG.toArray w (rD F p w r)) (K:∀a0 w' aA q bW,aj P n w0 M w' aA β (bR.put d (GT.val Y q)).σ a0 w'->(∀b,N b->¬F b->aA b/\w'.heap[b]? =u.heap[b]?)->ad w0 M w' aA bW Y q->(∀G:au,J G F->(∀b,G b->N b)->J G bW)->de p.I.2 (cb.I q).2->dW P Q (bR.put d (GT.val Y q)) a0 w') (hcall:kv P n bR.cF.opsOf bR.cF.idx bR.σ=some (f,eG,d):=by kernel_rfl) (hd:Nat.blt d n=true:=by kernel_rfl) (ca:bR.cF.kG=true:=by kernel_rfl):dW P Q bR a w:=
  ⟨lo (aj.P4 S (o:=o) (hY:=hY) (hc:=hc) (hcall:=hcall) (hd:=hd) (K:=fun _ _ _ _ _ h0 h1 an aF b2=>(K _ _ _ _ _ h0 h1 an aF b2).ok)) ca⟩
end
end Go.Proofs.YtjlocpdfcanlhaaGreat
namespace Go.Proofs.YtjlocpdfcanlhaaGreat
open Go
theorem Zk (w0:World) (x:Int) (ft:0<=x) (gP:x<=9223372036854775807):Calls Tryz.prog 313 [.int .u64 x].toArray w0 (fun e w'=>e= .returned (aa (qL x))/\bu ab w0 w'):=
  (Go.Proofs.YtjlocpdfcanlhaaGreatBits.bits_Len x w0 ft (by omega)).mono fun e w' ⟨h1,an⟩=>⟨h1,an▸bu.refl _ _⟩
end Go.Proofs.YtjlocpdfcanlhaaGreat
