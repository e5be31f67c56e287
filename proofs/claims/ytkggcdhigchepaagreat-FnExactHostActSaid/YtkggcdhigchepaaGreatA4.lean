/- Pages that are sent out, fetched and mended, in plain data. No program is named here. -/
import Derived.Test.YtkggcdhigchepaaGreatA3
import Derived.Test.YtkggcdhigchepaaGreatA1
import Derived.Test.YtkggcdhigchepaaGreatBits
namespace Go.Proofs.YtkggcdhigchepaaGreat
open Go
set_option linter.unusedVariables false
set_option linter.unusedSimpArgs false
theorem zP {h:aa} {m Z:Int} (e:b_ h m Z=false):fM h m Z=(h,false):=by
  unfold fM;rw [if_neg (fun h1=>by rw [e] at h1;cases h1.1)]
theorem iB {h:aa} {m Z:Int} (e:b_ h m Z=true) (h1:(el (el h.H m.toNat).ad Z.toNat).Z=-1\/el (el h.H m.toNat).ad Z.toNat=⟨-1,0⟩):fM h m Z=(h,false):=by
  unfold fM;rw [if_neg (fun ab=>ab.2 (h1.elim id fun aq=>by rw [aq]))]
theorem iC {h:aa} {m Z:Int} (e:b_ h m Z=true) (h1:¬(el (el h.H m.toNat).ad Z.toNat).Z=-1\/¬el (el h.H m.toNat).ad Z.toNat=⟨-1,0⟩):fM h m Z=(dW h m Z,true):=by
  unfold fM;rw [if_pos ⟨e,h1.elim id fun aq bg=>aq (rN e bg)⟩]
theorem An (x:ay) (k:Nat) (c:List Int):al.ao {x with out:=x.out.set k c}<=al.ao x+al.ao c:=by
  rw [fk,fk x];simp only;rw [cg (x.out.set _ _),cg x.out,List.length_set];by_cases hk:k<x.out.length
  · have h1:=iW (y:=c) hk;omega
  · rw [List.set_eq_of_length_le V];omega
theorem Aj (h:aa) (k:Nat) (y:ay) (a:List (List Int)) (n:Nat) (hy:al.ao y<=al.ao (el h.H k)+n):al.ao (⟨a,h.H.set k y,h.IB,h.IC⟩:aa)<=al.ao h+n+al.ao a:=by
  rw [fj,fj h];simp only;have d:=cg h.H;have A:=cg (h.H.set k y);rw [List.length_set] at A;by_cases hk:k<h.H.length
  · have h1:=iW (y:=y) hk;omega
  · rw [List.set_eq_of_length_le V];omega
theorem Aq (h:aa) (m Z:Int):al.ao (dW h m Z)<=3*al.ao h+4:=by
  have h1:=Aj h m.toNat _ h.Iy _ (An (el h.H m.toNat) Z.toNat (eI h.Iy (el (el h.H m.toNat).ad Z.toNat).Z));have ab:=Hm (m:=h.Iy) (p:=(el (el h.H m.toNat).ad Z.toNat).Z);have aq:al.ao h.Iy<=al.ao h:=by rw [fj h];omega
  exact Nat.le_trans (rS _ _ _ _) (Nat.le_trans h1 V)
theorem Ho (h:aa) (m Z:Int):al.ao (fM h m Z).1<=3*al.ao h+4:=by
  unfold fM;split
  · exact Aq h m Z
  · simp only;omega
def h2 (p:Int) (l:List aw):Nat:=(l.filter fun s=>decide (s.Z=p)).length
def hX (p:Int) (ms:List ay):Nat:=(ms.map fun x=>h2 p x.ad).sum
def one (c:Prop) [Decidable c]:Nat:=if c then 1 else 0
theorem l7 (p:Int) (s:aw) (r:List aw):h2 p (s::r)=one (s.Z=p)+h2 p r:=by
  unfold h2 one;by_cases h:s.Z=p
  · rw [List.filter_cons_of_pos (by simpa using h),List.length_cons,if_pos h];omega
  · rw [List.filter_cons_of_neg (by simpa using h),if_neg h];omega
theorem l3 (p:Int) (x:ay) (r:List ay):hX p (x::r)=h2 p x.ad+hX p r:=by simp [hX]
theorem EF (l:List aw):l.foldl hB none=none:=by
  induction l with
  |nil=>rfl
  |cons s r d=>rw [List.foldl_cons];exact d
theorem xz (l:List ay):l.foldl iF none=none:=by
  induction l with
  |nil=>rfl
  |cons s r d=>rw [List.foldl_cons];exact d
theorem u4 {p:Int} (aY:0<=p):∀(l:List aw) {u v:List Bool},p.toNat<u.length->l.foldl hB (some u)=some v->v.length=u.length/\h2 p l+one (el u p.toNat=true)=one (el v p.toNat=true)
  |
    [],u,v,hu,h=>by cases h;exact⟨rfl,by simp [h2]⟩
  |s::r,u,v,hu,h=>by
    rw [List.foldl_cons] at h;rw [l7];by_cases h1:s.Z<0
    · rw [ox h1] at h;obtain⟨d,f⟩:=u4 aY r hu h;refine⟨d,?_⟩;rw [show one (s.Z=p)=0 by unfold one;rw [if_neg V]];omega
    · cases ab:el u s.Z.toNat with
      |
        true=>rw [u7 h1 ab,EF] at h;cases h
      |false=>
        rw [ka h1 ab] at h;obtain⟨d,f⟩:=u4 aY r (by rw [List.length_set];exact hu) h;rw [List.length_set] at d;refine⟨d,?_⟩;by_cases aq:s.Z=p
        · subst aq;rw [b4 hu] at f;rw [ab];simp only [one] at f ⊢;simp at f ⊢;omega
        · rw [show el (u.set s.Z.toNat true) p.toNat=el u p.toNat from lO V] at f;rw [show one (s.Z=p)=0 by unfold one;rw [if_neg aq]];omega
theorem zt {p:Int} (aY:0<=p):∀(l:List ay) {u v:List Bool},p.toNat<u.length->l.foldl iF (some u)=some v->v.length=u.length/\hX p l+one (el u p.toNat=true)=one (el v p.toNat=true)
  |
    [],u,v,hu,h=>by cases h;exact⟨rfl,by simp [hX]⟩
  |x::r,u,v,hu,h=>by
    rw [List.foldl_cons] at h;rw [l3];cases hm:ed x with
    |false=>rw [u6 hm,xz] at h;cases h
    |true=>
      rw [ow hm] at h;cases ab:x.ad.foldl hB (some u) with
      |none=>rw [ab,xz] at h;cases h
      |some d=>
        rw [ab] at h;obtain⟨A,B⟩:=u4 aY x.ad hu ab;obtain⟨A,B⟩:=zt aY r V h;exact⟨V,V⟩
theorem Gb {h:aa} (e:b8 h=true) {p:Int} (aY:0<=p/\p<=11):hX p h.H<=1:=by
  simp only [b8,Bool.and_eq_true,kH] at e;obtain⟨v,d⟩:=Option.isSome_iff_exists.mp e.2;obtain⟨_,f⟩:=zt aY.1 h.H (by rw [List.length_replicate];omega) d;have:one (el v p.toNat=true)<=1:=by unfold one;split<;>omega
  omega
theorem Ac (p:Int) (s:aw):∀(l:List aw) (k:Nat),k<l.length->h2 p (l.set k s)+one ((el l k).Z=p)=h2 p l+one (s.Z=p)
  |
    [],k,h=>by simp at h
  |x::r,0,h=>by rw [List.set_cons_zero,l7,l7,show el (x::r) 0=x from rfl];omega
  |x::r,k+1,h=>by
    have:=Ac p s r k (by simpa using h);rw [List.set_cons_succ,l7,l7,show el (x::r) (k+1)=el r k by simp [el]];omega
theorem zK (p:Int) (y:ay):∀(l:List ay) (k:Nat),k<l.length->hX p (l.set k y)+h2 p (el l k).ad=hX p l+h2 p y.ad
  |
    [],k,h=>by simp at h
  |x::r,0,h=>by rw [List.set_cons_zero,l3,l3,show el (x::r) 0=x from rfl];omega
  |x::r,k+1,h=>by
    have:=zK p y r k (by simpa using h);rw [List.set_cons_succ,l3,l3,show el (x::r) (k+1)=el r k by simp [el]];omega
theorem Ab {p:Int}:∀{l:List aw} {k:Nat},k<l.length->(el l k).Z=p->1<=h2 p l
  |
    [],k,h,_=>by simp at h
  |x::r,0,_,e=>by rw [l7,show one (x.Z=p)=1 from if_pos e];omega
  |x::r,k+1,h,e=>by
    have:=Ab (l:=r) (k:=k) (by simpa using h) (by simpa [el] using e);rw [l7];omega
theorem zJ {p:Int}:∀{l:List ay} {k:Nat},k<l.length->h2 p (el l k).ad<=hX p l
  |
    [],k,h=>by simp at h
  |x::r,0,_=>by rw [l3,show el (x::r) 0=x from rfl];omega
  |x::r,k+1,h=>by
    have:=zJ (p:=p) (l:=r) (k:=k) (by simpa using h);rw [l3,show el (x::r) (k+1)=el r k by simp [el]];omega
theorem zI {l:List aw} {Z:Int} {k:Nat} (h:¬fo l Z k<0):fo l Z k<l.length/\(el l (fo l Z k).toNat).Z=Z:=by
  by_cases hk:k<l.length
  · by_cases e:(el l k).Z=Z
    · rw [uK hk e];exact⟨V,by simpa using e⟩
    · rw [uL hk e] at h ⊢;exact zI h
  · rw [uJ V] at h;omega
termination_by l.length-k
theorem zF {d:List ay} {Z:Int} {i:Nat} (h:¬(eH d Z i).1<0):(eH d Z i).1<d.length/\0<=(eH d Z i).2/\(eH d Z i).2<(el d (eH d Z i).1.toNat).ad.length/\(el (el d (eH d Z i).1.toNat).ad (eH d Z i).2.toNat).Z=Z:=by
  by_cases hk:i<d.length
  · by_cases e:fo (el d i).ad Z 0<0
    · have f:eH d Z i=eH d Z (i+1):=by rw [eH,if_pos hk,if_pos e]
      rw [f] at h ⊢;exact zF h
    · have f:eH d Z i=((i:Int),fo (el d i).ad Z 0):=by rw [eH,if_pos hk,if_neg e]
      rw [f];have h1:=zI e;exact⟨by show(i:Int)<_;omega,by show 0<=fo _ _ _;omega,h1.1,h1.2⟩
  · rw [uI V] at h;exact absurd (show(-1:Int)<0 by decide) h
termination_by d.length-i
theorem zM {h:aa} {p:Int} (e:¬(cc h p).1<0):(0<=(cc h p).1/\(cc h p).1<h.H.length)/\(0<=(cc h p).2/\(cc h p).2<(el h.H (cc h p).1.toNat).ad.length)/\(el (el h.H (cc h p).1.toNat).ad (cc h p).2.toNat).Z=p:=by
  by_cases d:p<0
  · rw [uO d] at e;exact absurd (show(-1:Int)<0 by decide) e
  · rw [uP d] at e ⊢;have h1:=zF e;exact⟨⟨V,h1.1⟩,⟨h1.2.1,h1.2.2.1⟩,h1.2.2.2⟩
theorem Gc {h:aa} {p:Int} (e:hX p h.H=0):(cc h p).1<0:=by
  by_cases d:(cc h p).1<0
  · exact d
  · have h1:=zM d;have ab:=zJ (p:=p) (l:=h.H) (k:=(cc h p).1.toNat) V;have aq:=Ab (p:=p) (l:=(el h.H (cc h p).1.toNat).ad) (k:=(cc h p).2.toNat) V h1.2.2;omega
theorem xF {h:aa} {p:Nat} (aY:p<h.Iy.length) (e:(cc h p).1<0):0<(cC h).length:=by
  have:(p:Int)∈cC h:=by
    unfold cC e7;exact List.mem_map.mpr ⟨p,List.mem_filter.mpr ⟨List.mem_range.mpr aY,by simpa using e⟩,rfl⟩
  exact List.length_pos_of_mem this
theorem EG {h:aa} (e:¬0<(cC h).length) {p:Nat} (aY:p<h.Iy.length):¬(cc h p).1<0:=fun h1=>e (xF aY h1)
def lens (x:ay):Nat×Nat×Nat×Nat×Nat×Nat:=(x.ad.length,x.out.length,x.IK.length,x.L.length,x.Iz.length,x.ID.length)
theorem u1 {xs:List ay} {k:Nat} {y:ay} (h:lens y=lens (el xs k)) (j:Nat):lens (el (xs.set k y) j)=lens (el xs j):=by
  by_cases hk:k<xs.length
  · by_cases d:k=j
    · subst d;rw [b4 hk];exact h
    · rw [lO (fun e=>d e.symm)]
  · rw [List.set_eq_of_length_le V]
theorem lY {x y:ay} (h:lens x=lens y):x.ad.length=y.ad.length/\x.out.length=y.out.length/\x.IK.length=y.IK.length/\x.L.length=y.L.length/\x.Iz.length=y.Iz.length/\x.ID.length=y.ID.length:=by
  simp only [lens,Prod.mk.injEq] at h;exact h
theorem rM (h:aa) (m Z:Int) (s:aw) (j:Nat):lens (el (eB h m Z s).H j)=lens (el h.H j):=by
  unfold eB;apply u1;simp only [lens,oA,List.length_set]
theorem nr {h:aa} {m:Int} {x:ay} (e:lens x=lens (el h.H m.toNat)) (j:Nat):lens (el (eW h m x).H j)=lens (el h.H j):=u1 e j
theorem z_ (h:aa) (a b:Int) (j:Nat):lens (el (dW h a b).H j)=lens (el h.H j):=by
  unfold dW;rw [rM,nr];simp only [lens,List.length_set]
theorem z9 (h:aa) (a b:Int):(dW h a b).H.length=h.H.length:=by simp [dW,eB,eW]
theorem GK {l d:List ay} {k:Nat} {y:ay} (h:d=l.set k y) (hk:k<l.length):d=l.set k (el d k):=by subst h;rw [b4 hk]
theorem GI {h:aa} {a b p:Int} (d:a.toNat<h.H.length) (hb:b.toNat<(el h.H a.toNat).ad.length) (aY:0<=p) (e:(el (el h.H a.toNat).ad b.toNat).Z=p):hX p (dW h a b).H+1=hX p h.H:=by
  have f:(dW h a b).H=h.H.set a.toNat (el (dW h a b).H a.toNat):=by
    have l:(dW h a b).H=_:=List.set_set _;exact GK l d
  have A:(el (dW h a b).H a.toNat).ad=(el h.H a.toNat).ad.set b.toNat ⟨-1,0⟩:=by
    unfold dW eB eW;simp only [b4 d,List.set_set]
  have h1:=zK p (el (dW h a b).H a.toNat) h.H a.toNat d;have ab:=Ac p ⟨-1,0⟩ (el h.H a.toNat).ad b.toNat hb;rw [←f,A] at h1;rw [show one ((el (el h.H a.toNat).ad b.toNat).Z=p)=1 from if_pos e,show one ((-1:Int)=p)=0 from if_neg V] at ab;omega
theorem rG {h:aa} (e:b8 h=true) (aF:¬0<(cC h).length):(0<=(cc h 0).1/\(cc h 0).1<h.H.length)/\(0<=(cc h 0).2/\(cc h 0).2<=7)/\((el h.H (cc h 0).1.toNat).ad.length=8/\(el h.H (cc h 0).1.toNat).out.length=8/\(el h.H (cc h 0).1.toNat).IK.length=8/\(el h.H (cc h 0).1.toNat).Iz.length=(el h.H (cc h 0).1.toNat).L.length)/\(el (el h.H (cc h 0).1.toNat).ad (cc h 0).2.toNat).Z=0:=by
  have h1:=zM (EG aF (p:=0) (by have:=fz e;omega));simp only [Int.ofNat_zero,show((0:Nat):Int)=0 from rfl] at h1;have ab:=ux (iQ e (k:=(cc h 0).1.toNat) V);exact⟨h1.1,⟨h1.2.1.1,V⟩,ab,h1.2.2⟩
def mG (h:aa):aa:=dW h (cc h 0).1 (cc h 0).2
theorem z8 {h:aa} (e:b8 h=true) (aF:¬0<(cC h).length):0<(cC (mG h)).length:=by
  have h1:=rG e aF;have ab:=GI (p:=0) V V (Int.le_refl 0) h1.2.2.2;have aq:=Gb e (p:=0) ⟨by decide,by decide⟩;refine xF (p:=0) ?_ (Gc ?_)
  · show 0<h.Iy.length;have:=fz e;omega
  · show hX 0 (dW h (cc h 0).1 (cc h 0).2).H=0;omega
theorem z7 {d h:aa} (hY:d=mG h) (e:b8 h=true) (aF:¬0<(cC h).length) (m:Nat):0<(cC d).length/\d.H.length=h.H.length/\(el d.H m).ad.length=(el h.H m).ad.length/\(el d.H m).out.length=(el h.H m).out.length/\(el d.H m).IK.length=(el h.H m).IK.length/\(el d.H m).L.length=(el h.H m).L.length/\(el d.H m).Iz.length=(el h.H m).Iz.length:=by
  subst hY;have h1:=lY (z_ h (cc h 0).1 (cc h 0).2 m);exact⟨z8 e aF,z9 _ _ _,h1.1,h1.2.1,h1.2.2.1,h1.2.2.2.1,h1.2.2.2.2.1⟩
def fW (m:List (List Int)) (p:Int) (c:List Int):List (List Int):=if(0<=p/\p<m.length)/\dV c=true then m.set p.toNat c else m
def e8 (h:aa):aa:=if 0<(cC h).length then h else mG h
def ik (h:aa) (m Z:Int):aa:=
  eB ⟨fW h.Iy (el (cC h) 0) (el (el h.H m.toNat).out Z.toNat),h.H.set m.toNat {el h.H m.toNat with out:=(el h.H m.toNat).out.set Z.toNat []},h.IB,h.IC⟩ m Z ⟨el (cC h) 0,3⟩
def e4 (h:aa) (m Z:Int):aa:=ik (e8 h) m Z
def fL (h:aa) (m Z:Int):aa×Bool:=
  if b_ h m Z=true/\(el (el h.H m.toNat).ad Z.toNat).Z=-1 then(e4 h m Z,true) else(h,false)
theorem zO {h:aa} {m Z:Int} (e:b_ h m Z=false):fL h m Z=(h,false):=by
  unfold fL;rw [if_neg (fun h1=>by rw [e] at h1;cases h1.1)]
theorem iz {h:aa} {m Z:Int} (e:b_ h m Z=true) (h1:¬(el (el h.H m.toNat).ad Z.toNat).Z=-1\/¬el (el h.H m.toNat).ad Z.toNat=⟨-1,0⟩):fL h m Z=(h,false):=by
  unfold fL;rw [if_neg (fun ab=>h1.elim (fun aq=>aq ab.2) fun aq=>aq (rN e ab.2))]
theorem iA {h:aa} {m Z:Int} (e:b_ h m Z=true) (h1:(el (el h.H m.toNat).ad Z.toNat).Z=-1\/el (el h.H m.toNat).ad Z.toNat=⟨-1,0⟩):fL h m Z=(e4 h m Z,true):=by
  unfold fL;rw [if_pos ⟨e,h1.elim id fun aq=>by rw [aq]⟩]
theorem Hw (m:List (List Int)) (p:Int) (c:List Int):al.ao (fW m p c)<=al.ao m+4:=by
  unfold fW;split
  · rename_i h;have h1:(c.length:Int)=4:=by
      have:=h.2;simp only [dV,Bool.and_eq_true,beq_iff_eq] at this;exact this.2
    have ab:=iW (y:=c) (show p.toNat<m.length by omega);rw [cg,cg m,List.length_set];have aq:al.ao c=c.length:=by rw [cg,eR (fun _=>rfl)];rfl
    omega
  · omega
theorem Hq (h:aa):al.ao (e8 h)<=3*al.ao h+4:=by
  unfold e8;split
  · omega
  · exact Aq _ _ _
theorem Ae (h:aa) (m Z:Int):al.ao (e4 h m Z)<=6*al.ao h+12:=by
  unfold e4;generalize aA:e8 h=g;have d:=Hq h;rw [aA] at d;have h1:=Aj g m.toNat _ (fW g.Iy (el (cC g) 0) (el (el g.H m.toNat).out Z.toNat)) _ (An (el g.H m.toNat) Z.toNat []);have ab:=Hw g.Iy (el (cC g) 0) (el (el g.H m.toNat).out Z.toNat);have aq:al.ao g.Iy<=al.ao g:=by rw [fj g];omega
  have bg:al.ao ([]:List Int)=0:=rfl;exact Nat.le_trans (rS _ _ _ _) (Nat.le_trans h1 V)
theorem Hn (h:aa) (m Z:Int):al.ao (fL h m Z).1<=6*al.ao h+12:=by
  unfold fL;split
  · exact Ae h m Z
  · simp only;omega
theorem ER {h:aa} {m Z:Int} (e:b_ h m Z=true):0<=(el (el h.H m.toNat).ad Z.toNat).IU/\(el (el h.H m.toNat).ad Z.toNat).IU<=3:=by
  have ab:=fp e;simp only [b_,Bool.and_eq_true] at e;have h1:=fP e.1;have aq:=oz (jy (iQ h1.1 (k:=m.toNat) V)).2 (k:=Z.toNat) V;simp only [c4,Bool.or_eq_true,Bool.and_eq_true,decide_eq_true_eq] at aq;rcases aq with aq|aq
  · rw [aq];exact⟨by decide,by decide⟩
  · have:=bj aq.2;omega
theorem gN {h:aa} {m Z:Int} (e:b_ h m Z=true):b8 h=true:=by
  simp only [b_,Bool.and_eq_true] at e;exact(fP e.1).1
def dU (h:aa) (m Z:Int):aa:=if(el (el h.H m.toNat).ad Z.toNat).Z=-1 then e4 h m Z else h
def il (h:aa) (m Z:Int):aa:=
  if cw (el (el h.H m.toNat).ad Z.toNat).IU 2=true then eW h m {el h.H m.toNat with IK:=(el h.H m.toNat).IK.set Z.toNat true}
  else eB (eW h m {el h.H m.toNat with IK:=(el h.H m.toNat).IK.set Z.toNat true}) m Z ⟨(el (el h.H m.toNat).ad Z.toNat).Z,3⟩
def cT (h:aa) (m Z a7:Int):aa:=if cw a7 2=true then il (dU h m Z) m Z else dU h m Z
def H7 (h:aa) (m Z a7:Int):aa×Bool:=if b_ h m Z=true/\av a7 1 3=true then(cT h m Z a7,true) else(h,false)
theorem xd {r:Int} (h:0<=r/\r<=3):cw r 2=true↔ ¬eX r 2=0:=by
  have:r=0\/r=1\/r=2\/r=3:=by omega
  rcases this with e|e|e|e<;>subst e<;>decide
theorem uZ {h:aa} {m Z:Int} (e:b_ h m Z=true):0<(cC (e8 h)).length/\(e8 h).H.length=h.H.length/\lens (el (e8 h).H m.toNat)=lens (el h.H m.toNat):=by
  unfold e8;split
  · rename_i aF;exact⟨aF,rfl,rfl⟩
  · rename_i aF;exact⟨z8 (gN e) aF,z9 _ _ _,z_ _ _ _ _⟩
theorem rA {h d:aa} (e:d=dW h (cc h 0).1 (cc h 0).2) (bc:¬0<(cC h).length):d=e8 h:=by unfold e8;rw [if_neg bc];exact e
theorem rz {h:aa} (aY:0<(cC h).length):h=e8 h:=by unfold e8;rw [if_pos aY]
theorem z3 {h d:aa} {m Z:Int} (hY:d=e8 h) (e:b_ h m Z=true):0<(cC d).length/\d.H.length=h.H.length/\(el d.H m.toNat).ad.length=8/\(el d.H m.toNat).out.length=8/\(el d.H m.toNat).IK.length=8/\(el d.H m.toNat).Iz.length=(el d.H m.toNat).L.length:=by
  subst hY;have h1:=fp e;have ab:=uZ e;have aq:=lY ab.2.2;exact⟨ab.1,ab.2.1,V,V,V,V⟩
theorem Gp {h:aa} {m Z:Int} (hm:m.toNat<h.H.length) (aY:Z.toNat<(el h.H m.toNat).ad.length):el (el (ik h m Z).H m.toNat).ad Z.toNat=⟨el (cC h) 0,3⟩:=by
  unfold ik eB;simp only [b4 hm,b4 aY,List.set_set]
theorem zX (h:aa) (m Z:Int) (j:Nat):lens (el (ik h m Z).H j)=lens (el h.H j):=by
  unfold ik;rw [rM];apply u1;simp only [lens,List.length_set]
theorem pB {d h:aa} {m Z:Int} (hY:d=e4 h m Z) (e:b_ h m Z=true):(d.H.length=h.H.length/\(el d.H m.toNat).ad.length=8/\(el d.H m.toNat).out.length=8/\(el d.H m.toNat).IK.length=8/\(el d.H m.toNat).Iz.length=(el d.H m.toNat).L.length)/\(el (el d.H m.toNat).ad Z.toNat).IU=3:=by
  subst hY;have h1:=fp e;have ab:=uZ e;have aq:=lY ab.2.2;have bg:=lY (zX (e8 h) m Z m.toNat);have A:(ik (e8 h) m Z).H.length=(e8 h).H.length:=by simp [ik,eB]
  have A:=Gp (h:=e8 h) (m:=m) (Z:=Z) V V;unfold e4;rw [A];exact⟨⟨V,V,V,V,V⟩,rfl⟩
theorem n_ {d h:aa} {m Z:Int} (hY:d=dU h m Z) (e:b_ h m Z=true):(d.H.length=h.H.length/\(el d.H m.toNat).ad.length=8/\(el d.H m.toNat).out.length=8/\(el d.H m.toNat).IK.length=8/\(el d.H m.toNat).Iz.length=(el d.H m.toNat).L.length)/\0<=(el (el d.H m.toNat).ad Z.toNat).IU/\(el (el d.H m.toNat).ad Z.toNat).IU<=3:=by
  unfold dU at hY;split at hY
  · have h1:=pB hY e;exact⟨h1.1,V,V⟩
  · subst hY;have h1:=fp e;exact⟨⟨rfl,h1.2.2.1,h1.2.2.2.1,h1.2.2.2.2.1,h1.2.2.2.2.2⟩,ER e⟩
theorem qQ {h:aa} {m Z:Int} (e:¬(el (el h.H m.toNat).ad Z.toNat).Z=-1):dU h m Z=h:=if_neg e
theorem qS {h d:aa} {m Z:Int} (hY:d=e4 h m Z) (e:(el (el h.H m.toNat).ad Z.toNat).Z=-1):dU h m Z=d:=by
  unfold dU;rw [if_pos e,hY]
theorem lk {h d:aa} {m Z:Int} (hY:d=e4 h m Z) (e:el (el h.H m.toNat).ad Z.toNat=⟨-1,0⟩):d=dU h m Z:=by rw [hY];exact(if_pos (by rw [e])).symm
theorem lj {h:aa} {m Z:Int} (p:b_ h m Z=true) (e:¬el (el h.H m.toNat).ad Z.toNat=⟨-1,0⟩):dU h m Z=h:=if_neg fun aq=>e (rN p aq)
theorem qR {h d:aa} {m Z:Int} (p:b_ h m Z=true) (h1:dU h m Z=d):m.toNat<d.H.length:=by
  have ab:=fp p;have aq:=n_ h1.symm p;omega
theorem uu {h d:aa} {m Z a7:Int} (p:b_ h m Z=true) (h1:dU h m Z=d) (ab:cw a7 2=false):cT h m Z a7=d:=by
  unfold cT;rw [if_neg (by rw [ab];exact fun e=>by cases e),h1]
theorem uw {h d:aa} {m Z a7:Int} {f:List ay} (p:b_ h m Z=true) (h1:dU h m Z=d) (ab:cw a7 2=true) (cZ:f=d.H.set m.toNat {el d.H m.toNat with IK:=(el d.H m.toNat).IK.set Z.toNat true})
    (aq:cw (el (el f m.toNat).ad Z.toNat).IU 2=true):cT h m Z a7=⟨d.Iy,f,d.IB,d.IC⟩:=by
  subst cZ;rw [b4 (qR p h1)] at aq;unfold cT il;rw [if_pos ab,h1,if_pos aq];rfl
theorem uv {h d:aa} {m Z a7:Int} {f:List ay} (p:b_ h m Z=true) (h1:dU h m Z=d) (ab:cw a7 2=true) (cZ:f=d.H.set m.toNat {el d.H m.toNat with IK:=(el d.H m.toNat).IK.set Z.toNat true})
    (aq:cw (el (el f m.toNat).ad Z.toNat).IU 2=false):cT h m Z a7=eB ⟨d.Iy,f,d.IB,d.IC⟩ m Z ⟨(el (el f m.toNat).ad Z.toNat).Z,3⟩:=by
  subst cZ;rw [b4 (qR p h1)] at aq ⊢;unfold cT il;rw [if_pos ab,h1,if_neg (by rw [aq];exact fun e=>by cases e)];rfl
theorem Fz {h d f:aa} {m Z a7:Int} {l o:List ay} {s:aw} (p:b_ h m Z=true) (h1:dU h m Z=d) (ab:cw a7 2=true) (cZ:l=d.H.set m.toNat {el d.H m.toNat with IK:=(el d.H m.toNat).IK.set Z.toNat true})
    (aq:cw (el (el l m.toNat).ad Z.toNat).IU 2=false) (q:o=l.set m.toNat {el l m.toNat with ad:=(el l m.toNat).ad.set Z.toNat ⟨(el (el l m.toNat).ad Z.toNat).Z,3⟩}) (hs:s=el (el l m.toNat).ad Z.toNat) (r:f=gU ⟨d.Iy,o,d.IB,d.IC⟩ m Z s):cT h m Z a7=f:=by
  rw [uv p h1 ab cZ aq,r,q,hs];have A:m.toNat<l.length:=by rw [cZ,List.length_set];exact qR p h1
  unfold eB gU;simp only [b4 A,List.set_set]
theorem pq {r:Int} (h:0<=r/\r<=3) (e:eX r 2=0):cw r 2=false:=by
  cases h1:cw r 2 with
  |false=>rfl
  |true=>exact absurd e ((xd h).1 h1)
theorem mA {r:Int} (h:0<=r/\r<=3) (e:¬eX r 2=0):cw r 2=true:=(xd h).2 e
theorem qT {h d:aa} {m Z:Int} {f:List ay} (p:b_ h m Z=true) (h1:dU h m Z=d) (cZ:f=d.H.set m.toNat {el d.H m.toNat with IK:=(el d.H m.toNat).IK.set Z.toNat true}):0<=(el (el f m.toNat).ad Z.toNat).IU/\(el (el f m.toNat).ad Z.toNat).IU<=3:=by
  rw [cZ,b4 (qR p h1)];exact(n_ h1.symm p).2
theorem Am (h:aa) (m Z:Int):al.ao (dU h m Z)<=6*al.ao h+12:=by
  unfold dU;split
  · exact Ae h m Z
  · omega
theorem Hx (h:aa) (m Z:Int):al.ao (il h m Z)<=al.ao h:=by
  have h1:al.ao (eW h m {el h.H m.toNat with IK:=(el h.H m.toNat).IK.set Z.toNat true})<=al.ao h:=oy h _ _ _ _ (u_ _ _ List.length_set) (Nat.le_refl _) (Nat.le_refl _);unfold il;split
  · exact h1
  · exact Nat.le_trans (rS _ _ _ _) h1
theorem Al (h:aa) (m Z a7:Int):al.ao (cT h m Z a7)<=6*al.ao h+12:=by
  unfold cT;split
  · exact Nat.le_trans (Hx _ _ _) (Am h m Z)
  · exact Am h m Z
theorem ur {h d:aa} {m Z a7:Int} (hY:d=cT h m Z a7) (p:b_ h m Z=true):(d.H.length=h.H.length/\(el d.H m.toNat).ad.length=8):=by
  have h1:=n_ (rfl:dU h m Z=dU h m Z) p;have ab:(il (dU h m Z) m Z).H.length=(dU h m Z).H.length/\lens (el (il (dU h m Z) m Z).H m.toNat)=lens (el (dU h m Z).H m.toNat):=by
    unfold il;split
    · exact⟨by simp [eW],nr (by simp only [lens,List.length_set]) _⟩
    · exact⟨by simp [eW,eB],by rw [rM,nr (by simp only [lens,List.length_set])]⟩
  have aq:=lY ab.2;subst hY;unfold cT;split
  · omega
  · exact⟨h1.1.1,h1.1.2.1⟩
def cL (b:aI) (Z cell v:Int):aI×Bool:=
  if c_ b=true/\(0<=Z/\Z<8)/\(0<=cell/\cell<4)/\av v 0 99=true then(⟨cN b.Iy Z cell v,b.L,b.ID,b.IA⟩,true) else(b,false)
def ij (h:aa) (m Z cell v:Int):Bool:=b_ h m Z&&av cell 0 3&&av v 0 99
theorem rm {h:aa} {m Z cell v:Int} (e:ij h m Z cell v=true):b_ h m Z=true/\(0<=m/\m<h.H.length)/\0<=Z/\Z<=7:=by
  simp only [ij,Bool.and_eq_true] at e;have h1:=fp e.1.1;exact⟨e.1.1,h1.1,h1.2.1⟩
theorem zT (h:aa) (m Z cell v:Int):bt h m (cL (aJ h m) Z cell v)=(h,ij h m Z cell v):=by
  have d:∀a b n:Int,av a b n=decide (b<=a/\a<=n):=fun a b n=>by
    simp only [av,Bool.decide_and]
  by_cases f:b8 h=true/\0<=m/\m<h.H.length
  · have hb:=rE f.1 f.2;have aY:b_ h m Z=av Z 0 7:=by unfold b_;rw [gQ f,Bool.true_and]
    unfold ij;rw [aY];by_cases hc:(0<=Z/\Z<8)/\(0<=cell/\cell<4)/\av v 0 99=true
    · have l:cL (aJ h m) Z cell v=(⟨cN (aJ h m).Iy Z cell v,(aJ h m).L,(aJ h m).ID,(aJ h m).IA⟩,true):=by
        unfold cL;rw [if_pos ⟨hb,hc⟩]
      have o:ec h m ⟨cN (aJ h m).Iy Z cell v,(aJ h m).L,(aJ h m).ID,(aJ h m).IA⟩=h:=by
        apply vv f.2
        · show(aJ h m).L=_;unfold aJ;rw [if_pos f.2]
        · show(aJ h m).IA=_;unfold aJ;rw [if_pos f.2]
      unfold bt;rw [l,if_pos ⟨f,rfl⟩,o,hc.2.2,d Z,d cell,decide_eq_true V,decide_eq_true V];rfl
    · have l:cL (aJ h m) Z cell v=(aJ h m,false):=by
        unfold cL;rw [if_neg (fun h1=>hc h1.2)]
      have A:(av Z 0 7&&av cell 0 3&&av v 0 99)=false:=by
        rw [Bool.eq_false_iff];intro h1;simp only [Bool.and_eq_true] at h1;have ab:=bj h1.1.1;have aq:=bj h1.1.2;exact hc ⟨V,V,h1.2⟩
      unfold bt;rw [l,A,if_neg (fun h1=>by cases h1.2)]
  · have A:ij h m Z cell v=false:=by
      rw [Bool.eq_false_iff];intro h1;have ab:=rm h1;exact f ⟨gN ab.1,ab.2.1⟩
    unfold bt;rw [A,if_neg (fun h1=>f h1.1)]
def fH (h:aa) (m Z cell v:Int):aa×Bool:=
  if ij h m Z cell v=true then(⟨cN (cT h m Z 2).Iy (el (el (cT h m Z 2).H m.toNat).ad Z.toNat).Z cell v,(cT h m Z 2).H,(cT h m Z 2).IB,(cT h m Z 2).IC⟩,true) else(h,false)
theorem x4 {h:aa} {m Z cell v:Int} (e:ij h m Z cell v=false):fH h m Z cell v=(h,false):=by
  unfold fH;rw [if_neg (by rw [e];exact fun h1=>by cases h1)]
theorem mT {h:aa} {m Z cell v:Int} (e:b_ h m Z=false\/av cell 0 3=false\/av v 0 99=false):fH h m Z cell v=(h,false):=
  x4 (by unfold ij;rcases e with e|e|e<;>rw [e]<;>simp)
theorem x6 {h d:aa} {m Z cell v:Int} (e:ij h m Z cell v=true) (hY:d=cT h m Z 2):fH h m Z cell v=(⟨cN d.Iy (el (el d.H m.toNat).ad Z.toNat).Z cell v,d.H,d.IB,d.IC⟩,true):=by
  subst hY;unfold fH;rw [if_pos e]
theorem x5 {h:aa} {m Z cell v:Int} (e:b_ h m Z=true) (d:av cell 0 3=true) (f:av v 0 99=true):fH h m Z cell v=(⟨cN (cT h m Z 2).Iy (el (el (cT h m Z 2).H m.toNat).ad Z.toNat).Z cell v,(cT h m Z 2).H,(cT h m Z 2).IB,(cT h m Z 2).IC⟩,true):=
  x6 (by unfold ij;rw [e,d,f];rfl) rfl
theorem Ar (m:List (List Int)) (p c v:Int):al.ao (cN m p c v)=al.ao m:=by
  unfold cN;split
  · rename_i h;have ab:=iW (y:=(el m p.toNat).set c.toNat v) (show p.toNat<m.length by omega);rw [cg,cg m,List.length_set];have aq:al.ao ((el m p.toNat).set c.toNat v)=al.ao (el m p.toNat):=by rw [cg,cg,eR (fun _=>rfl),eR (fun _=>rfl),List.length_set]
    omega
  · rfl
theorem He (h:aa) (m Z cell v:Int):al.ao (fH h m Z cell v).1<=6*al.ao h+12:=by
  unfold fH;split
  · have h1:=Al h m Z 2;rw [fj] at h1 ⊢;simp only;rw [Ar];exact h1
  · simp only;omega
end Go.Proofs.YtkggcdhigchepaaGreat
namespace Go.Proofs.YtkggcdhigchepaaGreat
open Go
set_option linter.unusedVariables false
set_option linter.unusedSimpArgs false
def b7 (b:List aG) (bm Z:Int):aG×Bool:=
  match b.find? (fun e=>eA e bm Z) with
  |some e=>(e,true)
  |none=>(⟨0,0,0,0⟩,false)
theorem xu {b:List aG} {d Z:Int} {k:Nat} (hk:b.length<=k) (h:(b.take k).find? (fun e=>eA e d Z)=none):b7 b d Z=(⟨0,0,0,0⟩,false):=by
  rw [cr hk] at h;unfold b7;rw [h]
theorem xv {b:List aG} {d Z:Int} {k:Nat} (hk:k<b.length) (h:(b.take k).find? (fun e=>eA e d Z)=none) (h1:eA (el b k) d Z=true):b7 b d Z=(el b k,true):=by
  have e:b.find? (fun e=>eA e d Z)=some (el b k):=by
    have A:b=b.take k++el b k::b.drop (k+1):=by
      rw [hK hk,←List.drop_eq_getElem_cons hk,List.take_append_drop]
    rw [A,List.find?_append,h,Option.none_or,List.find?_cons,←A,h1]
  unfold b7;rw [e]
theorem kM {b:List aG} {d Z:Int} {k:Nat} (hk:k<b.length) (h:(b.take k).find? (fun e=>eA e d Z)=none) (h1:eA (el b k) d Z=false):(b.take (k+1)).find? (fun e=>eA e d Z)=none:=by
  rw [eS hk,List.find?_append,h,Option.none_or,List.find?_cons,h1];rfl
theorem pC {K:Nat} {F:ah} {w:World} {b:List aG} {p:ak aG} (h:GT.rd K F w b p) (f Z:Int):dp (b7 b f Z).1:=by
  unfold b7;split
  · rename_i e he;obtain⟨i,d,l⟩:=List.getElem_of_mem (List.mem_of_find?_eq_some he);have ab:=ae.el h i d;rw [hK d,l] at ab;exact ab
  · exact⟨⟨by decide,by decide⟩,⟨by decide,by decide⟩,⟨by decide,by decide⟩,⟨by decide,by decide⟩⟩
def c7 (b:List aG) (e:aG):List aG:=(bE b e.bm e.Z++[e]).drop ((bE b e.bm e.Z++[e]).length-6)
def a0 (k:a6) (Z:Int):aw×Bool:=
  if((0<=Z/\Z<k.IN.length)/\Z<k.IT.length)/\el k.IN Z.toNat=true then(el k.IT Z.toNat,true) else(⟨-1,0⟩,false)
theorem kn {K:Nat} {F:ah} {w:World} {k:a6} {p:cJ} (h:GT.rd K F w k p) (Z:Int):bY (a0 k Z).1:=by
  unfold a0;split
  · exact ae.el (cP.IT (d:=k) h) _ V
  · exact⟨⟨by decide,by decide⟩,⟨by decide,by decide⟩⟩
def g_ (a b:Int):Int:=if av a 0 3=true/\av b 0 3=true then eX a b else 0
theorem A_ (a b:Int):0<=g_ a b/\g_ a b<=3:=by
  unfold g_;split
  · rename_i h;have h1:=bj h.1;have ab:=bj h.2;have f:a=0\/a=1\/a=2\/a=3:=by omega
    have l:b=0\/b=1\/b=2\/b=3:=by omega
    rcases f with e|e|e|e<;>rcases l with d|d|d|d<;>subst e<;>subst d<;>decide
  · omega
theorem Ba (a b:Int):au (g_ a b):=by
  have:=A_ a b;exact⟨V,V⟩
def ff (s:aw) (t:List aw):aw:=
  if s.Z=-1\/(b9 t s.Z).Z=-1\/g_ s.IU (b9 t s.Z).IU=0 then⟨-1,0⟩ else⟨(b9 t s.Z).Z,g_ s.IU (b9 t s.Z).IU⟩
theorem w6 {K:Nat} {F:ah} {w:World} {t:List aw} {p:ak aw} (h:GT.rd K F w t p) (s:aw):bY (ff s t):=by
  unfold ff;split
  · exact⟨⟨by decide,by decide⟩,⟨by decide,by decide⟩⟩
  · exact⟨(u2 h s.Z).1,Ba _ _⟩
def fv (k:a6) (inner ad:List aw) (Z:Int):a6:=
  if((0<=Z/\Z<k.IN.length)/\Z<k.IT.length)/\Z<inner.length then⟨k.IN.set Z.toNat true,k.IT.set Z.toNat (ff (el inner Z.toNat) ad)⟩ else k
theorem xD {α d:Type} [GT α] {f:d->α->d} {y:α}:∀{xs:List α} {k:Nat},k<xs.length->(∀u,f u y=f u (el xs k))->∀l,(xs.set k y).foldl f l=xs.foldl f l
  |
    [],k,h,_,_=>by simp at h
  |x::r,0,_,e,l=>by rw [List.set_cons_zero,List.foldl_cons,List.foldl_cons,e l];rfl
  |x::r,k+1,h,e,l=>by
    rw [List.set_cons_succ,List.foldl_cons,List.foldl_cons];exact xD (by simpa using h) (fun u=>by have:=e u;rwa [show el (x::r) (k+1)=el r k by simp [el]] at this) _
theorem FA {x:ay} {d:List Bool} (h:d.length=x.IK.length):ed {x with IK:=d}=ed x:=by
  have h1:hh {x with IK:=d}=hh x:=by unfold hh;simp only [h]
  have ab:jk {x with IK:=d}=jk x:=rfl;have aq:hn {x with IK:=d}=hn x:=rfl;unfold ed;rw [h1,ab,aq]
def jh (h:aa) (m q:Int):aa:=eW h m {el h.H m.toNat with IK:=(el h.H m.toNat).IK.set q.toNat true}
theorem EW {h:aa} {m q:Int} (hm:m.toNat<h.H.length):b8 (jh h m q)=b8 h:=by
  have h1:iO (jh h m q)=iO h:=by
    unfold iO jh eW;simp only [List.length_set]
  have ab:kH (jh h m q)=kH h:=by
    unfold kH jh eW;refine xD hm (fun d=>?_) _;unfold iF;rw [FA List.length_set]
  unfold b8;rw [h1,ab]
theorem EP {h:aa} {m q p:Int} (e:b_ h m p=true):b_ (jh h m q) m p=true:=by
  have ab:=fp e;have h1:(jh h m q).H.length=h.H.length:=List.length_set;simp only [b_,dO,Bool.and_eq_true] at e ⊢;rw [EW V,h1];exact e
theorem j4 {h:aa} {m:Int} (e:(aH h m).2=true):(0<=m/\m<h.H.length)/\(aH h m).1=el h.H m.toNat/\(aH h m).1.L.length=(el h.H m.toNat).L.length:=by
  unfold aH at e ⊢;split at e
  · rename_i d;rw [if_pos d];exact⟨d,rfl,rfl⟩
  · cases e
def jm (h:aa) (m g Z a7:Int):Int:=(bD (el (el h.H m.toNat).L g.toNat).IF Z a7).1
theorem hF {h:aa} {m g Z a7:Int} (e:(bD (el (el h.H m.toNat).L g.toNat).IF Z a7).2=true) (f:b8 h=true:=by assumption) (hm:0<=m/\m<h.H.length:=by omega) (aA:0<=g/\g<(el h.H m.toNat).L.length:=by omega):
    b_ h m (bD (el (el h.H m.toNat).L g.toNat).IF Z a7).1=true/\(0<=(bD (el (el h.H m.toNat).L g.toNat).IF Z a7).1/\(bD (el (el h.H m.toNat).L g.toNat).IF Z a7).1<=7)/\(el h.H m.toNat).ad.length=8/\(el h.H m.toNat).out.length=8/\(el h.H m.toNat).IK.length=8/\(el h.H m.toNat).Iz.length=(el h.H m.toNat).L.length:=by
  have d:=iQ f (k:=m.toNat) V;have h1:fm (el (el h.H m.toNat).L g.toNat)=true:=by
    simp only [ed,Bool.and_eq_true] at d;exact ja d.1.2 V
  have ab:dP (el (el h.H m.toNat).L g.toNat).IF 4 8=true:=by
    simp only [fm,Bool.and_eq_true] at h1;exact h1.1.1.1.1.2
  have l:0<=(bD (el (el h.H m.toNat).L g.toNat).IF Z a7).1/\(bD (el (el h.H m.toNat).L g.toNat).IF Z a7).1<=7:=by
    unfold bD at e ⊢;split at e
    · cases e
    · rename_i bc;rw [if_neg bc];simp only;unfold b9 at bc ⊢;by_cases aY:0<=Z/\Z<((el (el h.H m.toNat).L g.toNat).IF.length:Int)
      · rw [if_pos aY] at bc ⊢;have aq:=oz ab (k:=Z.toNat) V;simp only [c4,Bool.or_eq_true,Bool.and_eq_true,decide_eq_true_eq] at aq;rcases aq with aq|aq
        · rw [aq] at bc;exact absurd (Or.inl rfl) bc
        · exact bj aq.1.2
      · rw [if_neg aY] at bc;exact absurd (Or.inl rfl) bc
  refine⟨?_,l,ux d⟩;simp only [b_,Bool.and_eq_true];refine⟨gQ ⟨f,hm⟩,?_⟩;simp only [av,Bool.and_eq_true,decide_eq_true_eq];exact l
theorem lD {h:aa} {m g Z a7:Int} (e:(bD (el (aH h m).1.L g.toNat).IF Z a7).2=true) (d:b8 h=true:=by assumption) (hm:(aH h m).2=true:=by assumption) (aA:0<=g/\g<(aH h m).1.L.length:=by omega):
    b_ h m (bD (el (aH h m).1.L g.toNat).IF Z a7).1=true/\(0<=(bD (el (aH h m).1.L g.toNat).IF Z a7).1/\(bD (el (aH h m).1.L g.toNat).IF Z a7).1<=7)/\(el h.H m.toNat).ad.length=8/\(el h.H m.toNat).out.length=8/\(el h.H m.toNat).IK.length=8/\(el h.H m.toNat).Iz.length=(el h.H m.toNat).L.length:=by
  have h1:=j4 hm;rw [h1.2.1] at e aA ⊢;exact hF e d h1.1 aA
def kI (h:aa) (m g Z a7:Int):Bool:=
  b8 h&&decide (0<=m/\m<h.H.length)&&decide (0<=g/\g<(el h.H m.toNat).L.length)&&decide (a7=1\/a7=2)&&(bD (el (el h.H m.toNat).L g.toNat).IF Z a7).2
def iN (h:aa) (io:Bool):List aG:=if io=true then h.IC else h.IB
def kJ (h:aa) (io:Bool) (e:aG):aa:=if io=true then⟨h.Iy,h.H,h.IB,c7 h.IC e⟩ else⟨h.Iy,h.H,c7 h.IB e,h.IC⟩
def xr (b:List aG) (bm Z a7:Int):Bool:=(b7 b bm Z).2&&cw (b7 b bm Z).1.IU a7
def pz (k:a6) (Z a7:Int):Bool:=((!(a0 k Z).2)||((a0 k Z).1.Z== -1))||(!cw (a0 k Z).1.IU a7)
def Eb (k:a6) (m g Z:Int):aG:=⟨bb m g,Z,(a0 k Z).1.Z,(a0 k Z).1.IU⟩
def xq (z:ay) (g Z:Int):List a6:=z.Iz.set g.toNat (fv (el z.Iz g.toNat) (el z.L g.toNat).IF z.ad Z)
def nY (h:aa) (m g Z:Int):aa:=eW h m {el h.H m.toNat with Iz:=xq (el h.H m.toNat) g Z}
def jR (h:aa) (m g Z:Int) (io:Bool):aa×Int×Bool:=
  (kJ h io (Eb (el (el h.H m.toNat).Iz g.toNat) m g Z),(a0 (el (el h.H m.toNat).Iz g.toNat) Z).1.Z,true)
def gl (h:aa) (m g Z a7 q:Int) (io:Bool):aa×Int×Bool:=
  if xr (iN h io) (bb m g) Z a7=true then(h,(b7 (iN h io) (bb m g) Z).1.dc,true)
  else if pz (el (el h.H m.toNat).Iz g.toNat) Z a7=true then jR (nY (cT h m q a7) m g Z) m g Z io
  else jR h m g Z io
def eO (h:aa) (m q a7:Int):aa:=if a7=2 then jh h m q else h
def bp (h:aa) (m g Z a7:Int) (io:Bool):aa×Int×Bool:=
  if kI h m g Z a7=true then gl (eO h m (jm h m g Z a7) a7) m g Z a7 (jm h m g Z a7) io
  else(h,-1,false)
theorem qN {h:aa} {m g Z a7:Int} {d:Bool} (e:kI h m g Z a7=false):bp h m g Z a7 d=(h,-1,false):=by
  unfold bp;rw [if_neg (by rw [e];exact fun h=>by cases h)]
theorem y9 {h:aa} {m g Z a7:Int} {d:Bool} (e:((((!b8 h)||(!(aH h m).2))||(!av g 0 (((aH h m).1.L.length:Int)-1)))||((a7 != 1)&&(a7 != 2)))=true):bp h m g Z a7 d=(h,-1,false):=by
  apply qN;rw [Bool.eq_false_iff];intro h1;simp only [kI,Bool.and_eq_true,decide_eq_true_eq] at h1;obtain⟨⟨⟨⟨ab,aq⟩,bg⟩,A⟩,_⟩:=h1;have B:aH h m=(el h.H m.toNat,true):=by unfold aH;rw [if_pos aq]
  have C:av g 0 (((el h.H m.toNat).L.length:Int)-1)=true:=by
    simp only [av,Bool.and_eq_true,decide_eq_true_eq];omega
  rw [ab,B,C] at e;rcases A with A|A<;>subst A<;>simp at e
theorem y_ {h:aa} {m g Z a7:Int} {d:Bool} (hm:(aH h m).2=true) (e:(bD (el (aH h m).1.L g.toNat).IF Z a7).2=false):bp h m g Z a7 d=(h,-1,false):=by
  apply qN;rw [(j4 hm).2.1] at e;unfold kI;rw [e,Bool.and_false]
theorem zb {h:aa} {m g Z a7:Int} {d:Bool} (e:((((!b8 h)||(!av m 0 ((h.H.length:Int)-1)))||(!av g 0 (((el h.H m.toNat).L.length:Int)-1)))||((a7 != 1)&&(a7 != 2)))=true):bp h m g Z a7 d=(h,-1,false):=by
  apply qN;rw [Bool.eq_false_iff];intro h1;simp only [kI,Bool.and_eq_true,decide_eq_true_eq] at h1;obtain⟨⟨⟨⟨ab,aq⟩,bg⟩,A⟩,_⟩:=h1;have B:av m 0 ((h.H.length:Int)-1)=true:=by
    simp only [av,Bool.and_eq_true,decide_eq_true_eq];omega
  have C:av g 0 (((el h.H m.toNat).L.length:Int)-1)=true:=by
    simp only [av,Bool.and_eq_true,decide_eq_true_eq];omega
  rw [ab,B,C] at e;rcases A with A|A<;>subst A<;>simp at e
theorem zc {h:aa} {m g Z a7:Int} {d:Bool} (e:(bD (el (el h.H m.toNat).L g.toNat).IF Z a7).2=false):bp h m g Z a7 d=(h,-1,false):=by
  apply qN;unfold kI;rw [e,Bool.and_false]
theorem za {h:aa} {m g Z a7:Int} {d:Bool} (h1:b8 h=true) (ab:0<=m/\m<h.H.length) (aq:0<=g/\g<(el h.H m.toNat).L.length) (bg:a7=1\/a7=2) (f:(bD (el (el h.H m.toNat).L g.toNat).IF Z a7).2=true):
    bp h m g Z a7 d=gl (eO h m (bD (el (el h.H m.toNat).L g.toNat).IF Z a7).1 a7) m g Z a7 (bD (el (el h.H m.toNat).L g.toNat).IF Z a7).1 d:=by
  unfold bp;rw [if_pos (by unfold kI;rw [h1,f,decide_eq_true ab,decide_eq_true aq,decide_eq_true bg];rfl)];rfl
theorem ng {h d:aa} {m g Z a7:Int} {f:Bool} (h1:b8 h=true) (ab:(aH h m).2=true) (aq:0<=g/\g<(aH h m).1.L.length) (bg:a7=1\/a7=2) (l:(bD (el (aH h m).1.L g.toNat).IF Z a7).2=true) (o:d=eO h m (bD (el (aH h m).1.L g.toNat).IF Z a7).1 a7):
    bp h m g Z a7 f=gl d m g Z a7 (bD (el (aH h m).1.L g.toNat).IF Z a7).1 f:=by
  subst o;have A:=j4 ab;rw [A.2.1] at aq l ⊢;exact za h1 A.1 aq bg l
theorem nh {h:aa} {d:List ay} {m g Z a7:Int} {f:Bool} (h1:b8 h=true) (ab:0<=m/\m<h.H.length) (aq:0<=g/\g<(el h.H m.toNat).L.length) (bg:a7=1\/a7=2) (l:(bD (el (el h.H m.toNat).L g.toNat).IF Z a7).2=true) (o:d=(eO h m (bD (el (el h.H m.toNat).L g.toNat).IF Z a7).1 a7).H):
    bp h m g Z a7 f=gl ⟨h.Iy,d,h.IB,h.IC⟩ m g Z a7 (bD (el (el h.H m.toNat).L g.toNat).IF Z a7).1 f:=by
  rw [za h1 ab aq bg l,o]
  congr 1
  unfold eO;split<;>rfl
theorem nV {h:aa} {d:List ay} {m q a7:Int} (e:a7=2) (cZ:d=h.H.set m.toNat {el h.H m.toNat with IK:=(el h.H m.toNat).IK.set q.toNat true}):(⟨h.Iy,d,h.IB,h.IC⟩:aa)=eO h m q a7:=by
  unfold eO;rw [if_pos e,cZ];rfl
theorem nU {h:aa} {m q a7:Int} (e:¬a7=2):h=eO h m q a7:=(if_neg e).symm
theorem kC {h:aa} {d:List ay} {m q a7:Int} (e:a7=2) (cZ:d=h.H.set m.toNat {el h.H m.toNat with IK:=(el h.H m.toNat).IK.set q.toNat true}):d=(eO h m q a7).H:=congrArg aa.H (nV e cZ)
theorem pf {h:aa} {m q a7:Int} (e:¬a7=2):h.H=(eO h m q a7).H:=congrArg aa.H (nU e)
theorem qK {h:aa} {m g Z a7 q:Int} {d:Bool} (e:((b7 (iN h d) (bb m g) Z).2&&cw (b7 (iN h d) (bb m g) Z).1.IU a7)=true):gl h m g Z a7 q d=(h,(b7 (iN h d) (bb m g) Z).1.dc,true):=by
  unfold gl;exact if_pos e
theorem zd {h:aa} {m g Z a7 q:Int} {d:Bool} (e:((b7 (iN h d) (bb m g) Z).2&&cw (b7 (iN h d) (bb m g) Z).1.IU a7)=false):
    gl h m g Z a7 q d=if pz (el (el h.H m.toNat).Iz g.toNat) Z a7=true then jR (nY (cT h m q a7) m g Z) m g Z d else jR h m g Z d:=by
  unfold gl;exact if_neg (fun h1=>by rw [show xr _ _ _ _=false from e] at h1;cases h1)
theorem qL {h:aa} {m g Z a7 q:Int} {d:Bool} (e:((b7 (iN h d) (bb m g) Z).2&&cw (b7 (iN h d) (bb m g) Z).1.IU a7)=false)
    (f:(((!(a0 (el (el h.H m.toNat).Iz g.toNat) Z).2)||((a0 (el (el h.H m.toNat).Iz g.toNat) Z).1.Z== -1))||(!cw (a0 (el (el h.H m.toNat).Iz g.toNat) Z).1.IU a7))=false):gl h m g Z a7 q d=jR h m g Z d:=by
  rw [zd e];exact if_neg (fun h1=>by rw [show pz _ _ _=false from f] at h1;cases h1)
theorem qM {h d:aa} {f:List ay} {m g Z a7 q:Int} {l:Bool} (e:((b7 (iN h l) (bb m g) Z).2&&cw (b7 (iN h l) (bb m g) Z).1.IU a7)=false)
    (o:(((!(a0 (el (el h.H m.toNat).Iz g.toNat) Z).2)||((a0 (el (el h.H m.toNat).Iz g.toNat) Z).1.Z== -1))||(!cw (a0 (el (el h.H m.toNat).Iz g.toNat) Z).1.IU a7))=true) (r:d=cT h m q a7)
    (cZ:f=d.H.set m.toNat {el d.H m.toNat with Iz:=(el d.H m.toNat).Iz.set g.toNat (fv (el (el d.H m.toNat).Iz g.toNat) (el (el d.H m.toNat).L g.toNat).IF (el d.H m.toNat).ad Z)}):gl h m g Z a7 q l=jR ⟨d.Iy,f,d.IB,d.IC⟩ m g Z l:=by
  subst cZ r;rw [zd e,if_pos (show pz _ _ _=true from o)];rfl
theorem EV {h:aa} (e:b8 h=true):h.IB.length<=6/\h.IC.length<=6:=by
  simp only [b8,iO,hL,Bool.and_eq_true,decide_eq_true_eq] at e;omega
theorem kB {h d:aa} {m q a7:Int} (f:d=eO h m q a7) (p:b_ h m q=true):b_ d m q=true/\d.H.length=h.H.length/\((el d.H m.toNat).ad.length=8/\(el d.H m.toNat).Iz.length=(el d.H m.toNat).L.length/\(el d.H m.toNat).L.length=(el h.H m.toNat).L.length)/\d.IB.length<=6/\d.IC.length<=6:=by
  have h1:=fp p;have ab:=EV (gN p);unfold eO at f;split at f
  · subst f;have aq:=lY (nr (h:=h) (m:=m) (x:={el h.H m.toNat with IK:=(el h.H m.toNat).IK.set q.toNat true}) (by simp only [lens,List.length_set]) m.toNat);refine⟨EP p,List.length_set,?_,ab⟩;unfold jh;omega
  · subst f;exact⟨p,rfl,⟨h1.2.2.1,h1.2.2.2.2.2,rfl⟩,ab⟩
theorem jd {h:aa} {d:List ay} {m q a7:Int} (f:d=(eO h m q a7).H) (p:b_ h m q=true):b_ ⟨h.Iy,d,h.IB,h.IC⟩ m q=true/\d.length=h.H.length/\((el d m.toNat).ad.length=8/\(el d m.toNat).Iz.length=(el d m.toNat).L.length/\(el d m.toNat).L.length=(el h.H m.toNat).L.length)/\h.IB.length<=6/\h.IC.length<=6:=by
  have e:(⟨h.Iy,d,h.IB,h.IC⟩:aa)=eO h m q a7:=by
    rw [f];unfold eO;split<;>rfl
  exact kB e p
theorem pE (b:List aG) (p:Int):(ji b p).length<=b.length:=by
  unfold ji;split
  · exact Nat.le_refl _
  · exact jG _ _
theorem u3 (h:aa) (m Z:Int) (s:aw):(eB h m Z s).IB.length<=h.IB.length/\(eB h m Z s).IC.length<=h.IC.length:=⟨pE _ _,pE _ _⟩
theorem GH (h:aa) (a b:Int):(dW h a b).IB.length<=h.IB.length/\(dW h a b).IC.length<=h.IC.length:=u3 (eW h a _) a b ⟨-1,0⟩
theorem GA (h:aa):(e8 h).IB.length<=h.IB.length/\(e8 h).IC.length<=h.IC.length:=by
  unfold e8;split
  · exact⟨Nat.le_refl _,Nat.le_refl _⟩
  · exact GH h _ _
theorem El (h:aa) (m Z:Int):(e4 h m Z).IB.length<=h.IB.length/\(e4 h m Z).IC.length<=h.IC.length:=by
  have h1:=GA h;unfold e4 ik;exact⟨Nat.le_trans (pE _ _) h1.1,Nat.le_trans (pE _ _) h1.2⟩
theorem Fx (h:aa) (m Z a7:Int):(cT h m Z a7).IB.length<=h.IB.length/\(cT h m Z a7).IC.length<=h.IC.length:=by
  have h1:(dU h m Z).IB.length<=h.IB.length/\(dU h m Z).IC.length<=h.IC.length:=by
    unfold dU;split
    · exact El h m Z
    · exact⟨Nat.le_refl _,Nat.le_refl _⟩
  unfold cT;split
  · unfold il;split
    · exact h1
    · exact⟨Nat.le_trans (u3 _ _ _ _).1 h1.1,Nat.le_trans (u3 _ _ _ _).2 h1.2⟩
  · exact h1
theorem n9 {h d:aa} {m Z a7:Int} (f:d=cT h m Z a7) (p:b_ h m Z=true):d.H.length=h.H.length/\((el d.H m.toNat).ad.length=8/\(el d.H m.toNat).L.length=(el h.H m.toNat).L.length/\(el d.H m.toNat).Iz.length=(el h.H m.toNat).Iz.length)/\d.IB.length<=h.IB.length/\d.IC.length<=h.IC.length:=by
  have A:=Fx h m Z a7;have h1:=ur f p;have B:lens (el (dU h m Z).H m.toNat)=lens (el h.H m.toNat):=by
    unfold dU;split
    · unfold e4;rw [zX];exact(uZ p).2.2
    · rfl
  have ab:lens (el (cT h m Z a7).H m.toNat)=lens (el h.H m.toNat):=by
    unfold cT;split
    · unfold il;split
      · rw [nr (by simp only [lens,List.length_set])];exact B
      · rw [rM,nr (by simp only [lens,List.length_set])];exact B
    · exact B
  subst f;have aq:=lY ab;exact⟨h1.1,⟨h1.2,aq.2.2.2.1,aq.2.2.2.2.1⟩,A⟩
theorem put_eq {d:List aG} {n:Nat} (h:n=d.length-6):d.drop (d.length-6)=(d.drop n).take (d.length-n):=by
  subst h;rw [List.take_of_length_le (by rw [List.length_drop];exact Nat.le_refl _)]
theorem uW {d:List aG} (h:d.length<=6):d.drop (d.length-6)=d:=by
  rw [show d.length-6=0 by omega];rfl
theorem Fm (h:aa) (m g Z a7 q:Int) (d:Bool):(gl h m g Z a7 q d).2.2=true:=by
  unfold gl;split
  · rfl
  · split<;>rfl
theorem zn {h:aa} {m g Z a7:Int} {d:Bool} (e:(bp h m g Z a7 d).2.2=false):(bp h m g Z a7 d).1=h:=by
  unfold bp at e ⊢;split at e
  · rw [Fm] at e;cases e
  · rename_i bc;rw [if_neg bc]
def fV (h:aa) (m g addr v:Int):aa×Bool:=
  if(av addr 0 15=true/\av v 0 99=true)/\(bp h m g (bk addr) 2 true).2.2=true then
    (⟨cN (bp h m g (bk addr) 2 true).1.Iy (bp h m g (bk addr) 2 true).2.1 (b5 addr) v,(bp h m g (bk addr) 2 true).1.H,(bp h m g (bk addr) 2 true).1.IB,(bp h m g (bk addr) 2 true).1.IC⟩,true)
  else(h,false)
theorem lM {h:aa} {m g d v:Int} (e:av d 0 15=false\/av v 0 99=false\/(bp h m g (bk d) 2 true).2.2=false):fV h m g d v=(h,false):=by
  unfold fV;rw [if_neg (fun h1=>by rcases e with e|e|e<;>rw [e] at h1<;>simp at h1)]
theorem pg {h d:aa} {m g f v:Int} (hY:d=(bp h m g (bk f) 2 true).1) (e:(bp h m g (bk f) 2 true).2.2=false):fV h m g f v=(d,false):=by
  rw [lM (.inr (.inr e)),hY,zn e]
theorem ph {h d:aa} {m g f v:Int} (hY:d=(bp h m g (bk f) 2 true).1) (l:av f 0 15=true) (o:av v 0 99=true) (e:(bp h m g (bk f) 2 true).2.2=true):fV h m g f v=(⟨cN d.Iy (bp h m g (bk f) 2 true).2.1 (b5 f) v,d.H,d.IB,d.IC⟩,true):=by
  subst hY;unfold fV;rw [if_pos ⟨⟨l,o⟩,e⟩]
def di (m:List (List Int)) (p c:Int):Int:=if(0<=p/\p<m.length)/\0<=c/\c<(el m p.toNat).length then el (el m p.toNat) c.toNat else 0
theorem nT {K:Nat} {F:ah} {w:World} {m:List (List Int)} {q:ak (List Int)} (h:GT.rd K F w m q) (p c:Int):au (di m p c):=by
  unfold di;split
  · exact ae.el (ae.el h _ V) _ V
  · exact⟨by decide,by decide⟩
def ev (h:aa) (m g addr:Int):aa×Int×Bool:=
  if av addr 0 15=true/\(bp h m g (bk addr) 1 true).2.2=true then
    ((bp h m g (bk addr) 1 true).1,di (bp h m g (bk addr) 1 true).1.Iy (bp h m g (bk addr) 1 true).2.1 (b5 addr),true)
  else(h,0,false)
theorem oj {h:aa} {m g d:Int} (e:av d 0 15=false\/(bp h m g (bk d) 1 true).2.2=false):ev h m g d=(h,0,false):=by
  unfold ev;rw [if_neg (fun h1=>by rcases e with e|e<;>rw [e] at h1<;>simp at h1)]
theorem rp {h d:aa} {m g f:Int} (hY:d=(bp h m g (bk f) 1 true).1) (e:(bp h m g (bk f) 1 true).2.2=false):ev h m g f=(d,0,false):=by
  rw [oj (.inr e),hY,zn e]
theorem rq {h d:aa} {m g f:Int} (hY:d=(bp h m g (bk f) 1 true).1) (l:av f 0 15=true) (e:(bp h m g (bk f) 1 true).2.2=true):ev h m g f=(d,di d.Iy (bp h m g (bk f) 1 true).2.1 (b5 f),true):=by
  subst hY;unfold ev;rw [if_pos ⟨l,e⟩]
theorem G0 (k:a6) (i o:List aw) (p:Int):al.ao (fv k i o p)=al.ao k:=by
  unfold fv;split
  · rw [jF,jF k];simp only;rw [cg (k.IN.set _ _),cg k.IN,cg (k.IT.set _ _),cg k.IT,eR (fun _=>rfl),eR (fun _=>rfl) k.IN,eR (fun _=>rfl),eR (fun _=>rfl) k.IT,List.length_set,List.length_set]
  · rfl
theorem Ao (b:List aG) (e:aG):al.ao (c7 b e)<=al.ao b+1:=by
  have h:=jG b (fun x=>eA x e.bm e.Z);unfold c7 bE;rw [cg,cg b,eR (fun _=>rfl),eR (fun _=>rfl) b];simp only [List.length_drop,List.length_append,List.length_cons,List.length_nil];omega
theorem Ap (h:aa) (d:Bool) (e:aG):al.ao (kJ h d e)<=al.ao h+1:=by
  unfold kJ;have h1:=Ao h.IB e;have ab:=Ao h.IC e;split<;>(rw [fj,fj h];simp only;omega)
theorem Hk (x:ay) (t:List a6) (h1:t.length=x.Iz.length) (ab:c1 t=c1 x.Iz):al.ao {x with Iz:=t}<=al.ao x:=by
  rw [fk,fk x];simp only;rw [cg t,cg x.Iz];omega
theorem G1 (h:aa) (m g Z:Int):al.ao (nY h m g Z)<=al.ao h:=by
  refine oy h _ _ _ _ (Hk _ _ List.length_set ?_) (Nat.le_refl _) (Nat.le_refl _);unfold xq;by_cases hk:g.toNat<(el h.H m.toNat).Iz.length
  · have h1:=iW (y:=fv (el (el h.H m.toNat).Iz g.toNat) (el (el h.H m.toNat).L g.toNat).IF (el h.H m.toNat).ad Z) hk;rw [G0] at h1;omega
  · rw [List.set_eq_of_length_le V]
theorem GZ (h:aa) (m q a7:Int):al.ao (eO h m q a7)<=al.ao h:=by
  unfold eO;split
  · exact oy h _ _ _ _ (u_ _ _ List.length_set) (Nat.le_refl _) (Nat.le_refl _)
  · exact Nat.le_refl _
theorem Ak (h:aa) (m g Z a7:Int) (d:Bool):al.ao (bp h m g Z a7 d).1<=6*al.ao h+13:=by
  unfold bp;split
  · have h1:=GZ h m (jm h m g Z a7) a7;generalize eO h m (jm h m g Z a7) a7=y at h1;generalize jm h m g Z a7=q;unfold gl;split
    · simp only;omega
    · split
      · have ab:=Al y m q a7;have aq:=G1 (cT y m q a7) m g Z;exact Nat.le_trans (Ap _ _ _) V
      · exact Nat.le_trans (Ap _ _ _) V
  · simp only;omega
theorem Hg (h:aa) (m g d:Int):al.ao (ev h m g d).1<=6*al.ao h+13:=by
  unfold ev;split
  · exact Ak _ _ _ _ _ _
  · simp only;omega
theorem Hb (h:aa) (m g d v:Int):al.ao (fV h m g d v).1<=6*al.ao h+13:=by
  unfold fV;split
  · have h1:=Ak h m g (bk d) 2 true;rw [fj] at h1 ⊢;simp only;rw [Ar];exact h1
  · simp only;omega
end Go.Proofs.YtkggcdhigchepaaGreat
namespace Go.Proofs.YtkggcdhigchepaaGreat
open Go
def a9 (p:List bS) (ar:Int):bS:=if 0<=ar/\ar<p.length then el p ar.toNat else⟨7,0⟩
theorem gC {K:Nat} {F:ah} {w:World} {p:List bS} {q:ak bS} (h:GT.rd K F w p q) (d:Int):eU (a9 p d):=by
  unfold a9;split
  · exact ae.el h d.toNat V
  · exact⟨⟨by decide,by decide⟩,⟨by decide,by decide⟩⟩
def hq (g:ai):Bool:=gB g&&g.IJ.I6&&decide (du g.IA>=0)
theorem ps {a b c d:Int} (h:((a==b)||(c==d))=true):a=b\/c=d:=by
  rcases (Bool.or_eq_true _ _).mp h with h|h
  · exact .inl (eq_of_beq h)
  · exact .inr (eq_of_beq h)
def pA (o:Int):Int:=if o=3 then 3 else if o=4 then 4 else if o=5 then 5 else if o=6 then 6 else if o=7 then 7 else 2
def bw (g:ai):Int:=if gB g=false then 0 else if hq g=true then 1 else pA (a9 g.prog g.ar).I5
theorem lE (g:ai):0<=bw g/\bw g<=7:=by
  unfold bw pA
  repeat' split
  all_goals decide
def gp (g:ai) (n:Int):ai:=if g.IM.length<40 then {g with IM:=g.IM++[n]} else g
def gk (g:ai):ai:=if hq g=true then gp {g with IA:=(cl g.IA).1} (100+(cl g.IA).2.1) else g
theorem Ax (p:Int):-1<=(cl p).2.1/\(cl p).2.1<=64:=by
  have:=nx p;unfold cl;split
  · constructor<;>(simp only;omega)
  · constructor<;>(simp only;omega)
def sV (g:ai) (i:bS):ai:=
  if(0<=g.aT/\g.aT<=99)/\0<=i.x/\i.x<=99 then
    (if i.I5=1 then {aV g with aT:=i.x} else if i.I5=2 then {aV g with aT:=Int.tmod (g.aT+i.x) 100} else if i.I5=8/\g.aT=0 then {aV g with ar:=i.x} else aV g)
  else aV g
def gn (g:ai):ai:=if bw g=2 then sV g (a9 g.prog g.ar) else g
def fg (g:ai) (v:Int):ai:=aV (gp {g with aT:=v} v)
def bs (g:ai):Int:=if bw g=3\/bw g=4 then(a9 g.prog g.ar).x else-1
theorem fD {K:Nat} {F:ah} {w:World} {g:ai} {p:bG} (h:GT.rd K F w g p):au (bs g):=by
  unfold bs;split
  · exact eU.x (gC (ax.prog h) g.ar)
  · exact⟨by decide,by decide⟩
def cE (w:Bool):Int:=if w=true then 2 else 1
def eV (Z:Int) (w:Bool):bn:=⟨1,Z,w,0⟩
def ie (n:Int):bn:=⟨2,0,false,n⟩
def ih (n:Int):bn:=⟨3,0,false,n⟩
theorem th:au 0:=⟨by decide,by decide⟩
theorem sW {p:Int} (h:au p) (w:Bool):ct (eV p w):=⟨(show au 1 from⟨by decide,by decide⟩),h,th⟩
theorem wX {n:Int} (h:au n):ct (ie n):=⟨(show au 2 from⟨by decide,by decide⟩),th,h⟩
theorem zC {n:Int} (h:au n):ct (ih n):=⟨(show au 3 from⟨by decide,by decide⟩),th,h⟩
def eu (t k:Int):Bool:=av t 0 3&&decide (k=1\/k=2)&&(eX t k != 0)
def ez (ad inner k:Int):Int:=if eu inner k=true then 1 else if eu ad k=true then 2 else 0
def cI (x:ai) (aK want:Int):ai×Bool:=
  if want=6 then({x with exit:=ie (a9 x.prog x.ar).x},false)
  else if want=5/\eu aK 1=true then({x with exit:=ih (a9 x.prog x.ar).x},false)
  else if want=7/\eu aK 2=true then({x with exit:=⟨4,0,false,0⟩},false)
  else if want=7 then(dj x,true) else(aV x,true)
def hR (x:ai) (want:Int):ai:=if want=5 then {x with exit:=ih (a9 x.prog x.ar).x} else {x with exit:=⟨4,0,false,0⟩}
def da (want:Int):Int:=if want=5 then 1 else 2
def gW (b:aI) (n:Int):aI:=if b.ID.length<40 then⟨b.Iy,b.L,b.ID++[n],b.IA⟩ else b
def kL (x:ai) (want:Int):Int×Bool:=bD x.IF (bk (bs x)) (cE (want==4))
def nX (b:aI) (g:Int) (x:ai) (want:Int):aI:=
  if(kL x want).2=false then⟨b.Iy,b.L.set g.toNat {x with exit:=eV (bk (bs x)) (want==4)},b.ID,b.IA⟩
  else if want=4 then⟨cN b.Iy (kL x want).1 (b5 (bs x)) x.aT,b.L.set g.toNat (aV x),b.ID,b.IA⟩
  else⟨b.Iy,b.L.set g.toNat (fg x (di b.Iy (kL x want).1 (b5 (bs x)))),b.ID,b.IA⟩
def ic (b:aI) (x:ai) (want:Int):aI:=if(cI x x.IJ.aK want).2=true/\want=5 then gW b (a9 x.prog x.ar).x else b
def gS (b:aI) (g:Int) (x:ai) (want:Int):aI:=
  if want=1 then⟨b.Iy,b.L.set g.toNat (gk x),b.ID,b.IA⟩
  else if want=2 then⟨b.Iy,b.L.set g.toNat (gn x),b.ID,b.IA⟩
  else if want=3\/want=4 then nX b g x want
  else⟨(ic b x want).Iy,(ic b x want).L.set g.toNat (cI x x.IJ.aK want).1,(ic b x want).ID,(ic b x want).IA⟩
def fu (b:aI) (g:Int):aI×Bool:=
  if c_ b=true/\(0<=g/\g<b.L.length)/\¬bw (el b.L g.toNat)=0 then(gS b g (el b.L g.toNat) (bw (el b.L g.toNat)),true) else(b,false)
theorem mm {b:aI} {g:Int} (e:c_ b=false\/(aZ b g).2=false\/bw (aZ b g).1=0):fu b g=(b,false):=by
  unfold fu;rw [if_neg];rintro⟨h1,ab,aq⟩;rcases e with e|e|e
  · rw [e] at h1;cases h1
  · unfold aZ at e;rw [if_pos ab] at e;cases e
  · unfold aZ at e;rw [if_pos ab] at e;exact aq e
theorem vx {b:aI} {g:Int} (l:c_ b=true) (d:(aZ b g).2=true) (f:¬bw (aZ b g).1=0):fu b g=(gS b g (aZ b g).1 (bw (aZ b g).1),true):=by
  unfold aZ at d f ⊢;split at d
  · rename_i ab;rw [if_pos ab] at f ⊢;unfold fu;rw [if_pos ⟨l,ab,f⟩]
  · cases d
theorem ke {b:aI} {g:Int} (e:(aZ b g).2=true) (x:ai):eJ b g x=⟨b.Iy,b.L.set g.toNat x,b.ID,b.IA⟩:=by
  unfold aZ at e;split at e
  · rename_i ab;unfold eJ;rw [if_pos ab]
  · cases e
theorem oJ {b:aI} {g:Int} {x:ai} {d:Int} (e:d=1):gS b g x d=⟨b.Iy,b.L.set g.toNat (gk x),b.ID,b.IA⟩:=by subst e;rfl
theorem oK {b:aI} {g:Int} {x:ai} {d:Int} (e:d=2):gS b g x d=⟨b.Iy,b.L.set g.toNat (gn x),b.ID,b.IA⟩:=by subst e;rfl
theorem r9 {b:aI} {g:Int} {x:ai} {d:Int} (e:d=3\/d=4):gS b g x d=nX b g x d:=by rcases e with e|e<;>subst e<;>rfl
theorem oL {b:aI} {g:Int} {x:ai} {d:Int} (f:¬d=1) (l:¬d=2) (o:¬d=3) (q:¬d=4):
    gS b g x d=⟨(ic b x d).Iy,(ic b x d).L.set g.toNat (cI x x.IJ.aK d).1,(ic b x d).ID,(ic b x d).IA⟩:=by
  unfold gS;rw [if_neg f,if_neg l,if_neg V]
theorem gw {b d:aI} {g:Int} (e:(aZ b g).2=true) (h:d.L=b.L) (x:ai):eJ d g x=⟨d.Iy,d.L.set g.toNat x,d.ID,d.IA⟩:=by
  unfold aZ at e;split at e
  · rename_i ab;unfold eJ;rw [if_pos (by rw [h];exact ab)]
  · cases e
theorem j7 (b:aI) (n:Int):(gW b n).L=b.L:=by unfold gW;split<;>rfl
section
variable {b:aI} {g:Int} {x:ai} {want:Int}
theorem uo (h:want=3\/want=4) (e:(bD x.IF (bk (bs x)) (cE (want==4))).2=false):gS b g x want=⟨b.Iy,b.L.set g.toNat {x with exit:=eV (bk (bs x)) (want==4)},b.ID,b.IA⟩:=by
  rw [r9 h];unfold nX;rw [if_pos (show(kL x want).2=false from e)]
theorem uq (h:want=4) (e:(bD x.IF (bk (bs x)) (cE (want==4))).2=true):gS b g x want=⟨cN b.Iy (bD x.IF (bk (bs x)) (cE (want==4))).1 (b5 (bs x)) x.aT,b.L.set g.toNat (aV x),b.ID,b.IA⟩:=by
  rw [r9 (.inr h)];unfold nX;rw [if_neg (show ¬(kL x want).2=false by rw [show(kL x want).2=true from e];exact fun h=>by cases h),if_pos h];rfl
theorem um (h:want=3) (e:(bD x.IF (bk (bs x)) (cE (want==4))).2=true):gS b g x want=⟨b.Iy,b.L.set g.toNat (fg x (di b.Iy (bD x.IF (bk (bs x)) (cE (want==4))).1 (b5 (bs x)))),b.ID,b.IA⟩:=by
  rw [r9 (.inl h)];unfold nX;rw [if_neg (show ¬(kL x want).2=false by rw [show(kL x want).2=true from e];exact fun h=>by cases h),if_neg V];rfl
theorem q2 (h:want=6):gS b g x want=⟨b.Iy,b.L.set g.toNat {x with exit:=ie (a9 x.prog x.ar).x},b.ID,b.IA⟩:=by
  subst h;rfl
theorem uF (bc:want=5\/want=7) (e:eu x.IJ.aK (da want)=true):gS b g x want=⟨b.Iy,b.L.set g.toNat (hR x want),b.ID,b.IA⟩:=by
  rcases bc with h|h<;>subst h
  · have d:cI x x.IJ.aK 5=({x with exit:=ih (a9 x.prog x.ar).x},false):=by
      unfold cI;rw [if_neg (by decide),if_pos ⟨rfl,e⟩]
    rw [oL (by decide) (by decide) (by decide) (by decide)];unfold ic;rw [d,if_neg (by rintro⟨h,_⟩;cases h)];rfl
  · have d:cI x x.IJ.aK 7=({x with exit:=⟨4,0,false,0⟩},false):=by
      unfold cI;rw [if_neg (by decide),if_neg (by rintro⟨h,_⟩;cases h),if_pos ⟨rfl,e⟩]
    rw [oL (by decide) (by decide) (by decide) (by decide)];unfold ic;rw [d,if_neg (by rintro⟨h,_⟩;cases h)];rfl
theorem uE (h:want=5) (e:eu x.IJ.aK (da want)=false):gS b g x want=⟨(gW b (a9 x.prog x.ar).x).Iy,(gW b (a9 x.prog x.ar).x).L.set g.toNat (aV x),(gW b (a9 x.prog x.ar).x).ID,(gW b (a9 x.prog x.ar).x).IA⟩:=by
  subst h;have d:eu x.IJ.aK 1=false:=e;have f:cI x x.IJ.aK 5=(aV x,true):=by
    unfold cI;rw [if_neg (by decide),if_neg (by rw [d];rintro⟨_,h⟩;cases h),if_neg (by rintro⟨h,_⟩;cases h),if_neg (by decide)]
  rw [oL (by decide) (by decide) (by decide) (by decide)];unfold ic;rw [f,if_pos ⟨rfl,rfl⟩]
theorem uC (h:want=7) (e:eu x.IJ.aK (da want)=false):gS b g x want=⟨b.Iy,b.L.set g.toNat (dj x),b.ID,b.IA⟩:=by
  subst h;have d:eu x.IJ.aK 2=false:=e;have f:cI x x.IJ.aK 7=(dj x,true):=by
    unfold cI;rw [if_neg (by decide),if_neg (by rintro⟨h,_⟩;cases h),if_neg (by rw [d];rintro⟨_,h⟩;cases h),if_pos rfl]
  rw [oL (by decide) (by decide) (by decide) (by decide)];unfold ic;rw [f,if_neg (by rintro⟨_,h⟩;cases h)]
end
end Go.Proofs.YtkggcdhigchepaaGreat
namespace Go.Proofs.YtkggcdhigchepaaGreat
open Go
def gL (h:aa) (m g:Int):Bool:=b8 h&&av m 0 ((h.H.length:Int)-1)&&av g 0 (((el h.H m.toNat).L.length:Int)-1)
theorem rO {h:aa} {m g:Int} (e:gL h m g=true):b8 h=true/\(0<=m/\m<h.H.length)/\0<=g/\g<(el h.H m.toNat).L.length:=by
  simp only [gL,Bool.and_eq_true] at e;have h1:=bj e.1.2;have ab:=bj e.2;exact⟨e.1.1,V,V⟩
def iP (h:aa) (m g:Int) (x:ai):aa:=⟨h.Iy,h.H.set m.toNat {el h.H m.toNat with L:=(el h.H m.toNat).L.set g.toNat x},h.IB,h.IC⟩
def gI (h:aa) (m g:Int) (x:ai) (b2:Bool):aa×Int×Bool:=bp h m g (bk (bs x)) (cE b2) false
def hQ (h:aa) (m g:Int) (x:ai) (b2:Bool):aa:=
  if(gI h m g x b2).2.2=false then iP (gI h m g x b2).1 m g {x with exit:=eV (bk (bs x)) b2}
  else if b2=true then iP ⟨cN (gI h m g x b2).1.Iy (gI h m g x b2).2.1 (b5 (bs x)) x.aT,(gI h m g x b2).1.H,(gI h m g x b2).1.IB,(gI h m g x b2).1.IC⟩ m g (aV x)
  else iP (gI h m g x b2).1 m g (fg x (di (gI h m g x b2).1.Iy (gI h m g x b2).2.1 (b5 (bs x))))
def dt (x:ay) (y:ai) (want:Int):Int:=if(¬want=6/\ez x.aK y.IJ.aK (da want)=2)/\x.owned<1000000000 then x.owned+1 else x.owned
def gm (x:ay) (y:ai) (want:Int):List Int:=if((cI y y.IJ.aK want).2=true/\want=5)/\x.ID.length<40 then x.ID++[(a9 y.prog y.ar).x] else x.ID
def fh (x:ay) (g:Int) (y:ai) (want:Int):ay:={x with L:=x.L.set g.toNat (cI y y.IJ.aK want).1,ID:=gm x y want,owned:=dt x y want}
def kK (h:aa) (m:Int) (x:ay):aa:=⟨h.Iy,h.H.set m.toNat x,h.IB,h.IC⟩
def jQ (h:aa) (m g:Int) (x:ai) (want:Int):aa:=
  if want=1 then iP h m g (gk x)
  else if want=2 then iP h m g (gn x)
  else if want=3\/want=4 then hQ h m g x (want==4)
  else kK h m (fh (el h.H m.toNat) g x want)
def ew (h:aa) (m g:Int):aa×Bool:=
  if gL h m g=true/\¬bw (el (el h.H m.toNat).L g.toNat)=0 then
    (jQ h m g (el (el h.H m.toNat).L g.toNat) (bw (el (el h.H m.toNat).L g.toNat)),true)
  else(h,false)
theorem hU {h:aa} {m g:Int} (e:gL h m g=false\/bw (el (el h.H m.toNat).L g.toNat)=0):ew h m g=(h,false):=by
  unfold ew;rw [if_neg];rintro⟨h1,ab⟩;rcases e with e|e
  · rw [e] at h1;cases h1
  · exact ab e
theorem iR {h:aa} {m g:Int} (e:gL h m g=true) (d:¬bw (el (el h.H m.toNat).L g.toNat)=0):ew h m g=(jQ h m g (el (el h.H m.toNat).L g.toNat) (bw (el (el h.H m.toNat).L g.toNat)),true):=by
  unfold ew;rw [if_pos ⟨e,d⟩]
section
variable {h:aa} {m g:Int} {x:ai} {want:Int}
theorem tc (e:want=1):jQ h m g x want=iP h m g (gk x):=by subst e;rfl
theorem td (e:want=2):jQ h m g x want=iP h m g (gn x):=by subst e;rfl
theorem p8 (e:want=3\/want=4):jQ h m g x want=hQ h m g x (want==4):=by rcases e with e|e<;>subst e<;>rfl
theorem p9 (d:¬want=1) (f:¬want=2) (l:¬want=3) (o:¬want=4):jQ h m g x want=kK h m (fh (el h.H m.toNat) g x want):=by
  unfold jQ;rw [if_neg d,if_neg f,if_neg V]
end
theorem zm {h f:aa} {m g Z a7:Int} {d:Bool} (hY:f=(bp h m g Z a7 d).1) (e:gL h m g=true):(0<=m/\m<f.H.length)/\0<=g/\g<(el f.H m.toNat).L.length:=by
  obtain⟨h1,ab,aq⟩:=rO e;subst hY;unfold bp;split
  · rename_i hk;have t:(bD (el (el h.H m.toNat).L g.toNat).IF Z a7).2=true:=by
      simp only [kI,Bool.and_eq_true] at hk;exact hk.2
    have aY:=(hF t h1 ab aq).1;have o:=kB (a7:=a7) rfl aY;have u:=n9 (a7:=a7) rfl o.1;show(0<=m/\m<(gl (eO h m (jm h m g Z a7) a7) m g Z a7 (jm h m g Z a7) d).1.H.length)/\0<=g/\g<(el (gl (eO h m (jm h m g Z a7) a7) m g Z a7 (jm h m g Z a7) d).1.H m.toNat).L.length;change _/\_ at o;unfold jm;generalize (bD (el (el h.H m.toNat).L g.toNat).IF Z a7).1=q at*;generalize eO h m q a7=y at*;have r:∀(l:aa) (e:aG),(kJ l d e).H=l.H:=fun l e=>by unfold kJ;split<;>rfl
    unfold gl;split
    · show(0<=m/\m<y.H.length)/\0<=g/\g<(el y.H m.toNat).L.length;exact⟨V,V⟩
    · split
      · unfold jR;simp only [r];unfold nY eW;simp only [List.length_set];rw [b4 (show m.toNat<(cT y m q a7).H.length by omega)];simp only;exact⟨V,V⟩
      · unfold jR;simp only [r];exact⟨V,V⟩
  · exact⟨ab,aq⟩
def HZ (h:aa) (m:Int) (order:List Int):aa×List Bool:=order.foldl (fun s g=>((ew s.1 m g).1,s.2++[(ew s.1 m g).2])) (h,[])
end Go.Proofs.YtkggcdhigchepaaGreat
namespace Go.Proofs.YtkggcdhigchepaaGreat
open Go
set_option linter.unusedVariables false
def One (p:gE):ah:=fun b=>p.nil=false/\b=p.b
theorem one_sub {K:Nat} {F:ah} {w:World} {xs:List Int} {p:ak Int} (h:GT.own K F w xs p):∀b,One p.1 b->F b:=fun b ⟨d,e⟩=>e▸((show dS K F w xs p from h).row d).1
theorem FU {K:Nat} {F:ah} {w:World} {xs:List Int} {p:ak Int} (h:GT.own K F w xs p):GT.own K (One p.1) w xs p:=by
  have h:dS K F w xs p:=h;obtain⟨d,f,_,_⟩:=h.el;exact(⟨h.le,h.cap,h.JD,h.null,fun A=>⟨⟨A,rfl⟩,(h.row A).2⟩,h.cell,fun _=>I,fun i A=>(f i A:au _),fun _ _ _ hb=>False.elim hb,fun _ _ _ _ _ _ hb=>False.elim hb⟩:dS K (One p.1) w xs p)
theorem FT {K:Nat} {N d:ah} {u f:World} {xs l:List Int} {p r:ak Int} (h:GT.own K (One p.1) u xs p) (hN:∀b,One p.1 b->N b) (o:GT.own K d f (xs++l) r) (e:r.1=p.1\/∀b,N b->f.heap[b]? =u.heap[b]?):GT.own K (One p.1) f xs p:=by
  rcases e with e|e
  · have h:dS K (One p.1) u xs p:=h;have o:dS K d f (xs++l) r:=o;obtain⟨A,B,_,_⟩:=h.el;refine(⟨h.le,h.cap,h.JD,h.null,fun A=>⟨⟨A,rfl⟩,?_⟩,fun i C=>?_,fun _=>I,fun i C=>(B i C:au _),fun _ _ _ hb=>False.elim hb,fun _ _ _ _ _ _ hb=>False.elim hb⟩:dS K (One p.1) f xs p)
    · have:=(o.row (by rw [e];exact A)).2;rw [e] at this;exact this
    · have h1:=o.cell i (by rw [List.length_append];omega);rw [e] at h1;rw [show el (xs++l) i=el xs i from by unfold el;simp only [List.getD_eq_getElem?_getD,List.getElem?_append_left C]] at h1;exact h1
  · exact GT.bh h fun b hb _=>e b (hN b hb)
section
variable {P:Program} {n:Nat} {w0:World} {M:ah} {u:World} {N:ah} {β:Nat->Nat} {a:Act} {w:World} {Q:Exit->Act->World->Prop}
theorem zs {K:Nat} {d Fy:ah} {f:World} {x:ay} {p:cA} {l:List Int} {q:ak Int} (h:GT.own K d u x p) (hl:GT.own K Fy f l q) (o:∀b,d b->N b) (hu:∀b,N b->¬One p.ID.1 b->f.heap[b]? =u.heap[b]?) (r:∀t:ah,U t (One p.ID.1)->(∀b,t b->N b)->U t Fy):
    ∃y,GT.own K y f ({x with ID:=l}:ay) {p with ID:=q}/\∀b,y b->d b\/(Fy b/\¬N b):=by
  obtain⟨A,B,C,D,F,G,H,I,J,L,O,R,s,T,W,X⟩:=h;have Y:=one_sub O;have y:U A F:=bz s.IY (i:=0) (j:=4) (by decide) rfl rfl;have O:U B F:=bz s.IY (i:=1) (j:=4) (by decide) rfl rfl;have z:U C F:=bz s.IY (i:=2) (j:=4) (by decide) rfl rfl;have ad:U D F:=bz s.IY (i:=3) (j:=4) (by decide) rfl rfl;have ae:U G F:=(bz s.IY (i:=4) (j:=5) (by decide) rfl rfl).symm;have af:=s.sub A aM;have ag:=s.sub B aM;have aj:=s.sub C aM;have al:=s.sub D aM;have am:=s.sub F aM;have ao:=s.sub G aM;have ap:∀t:ah,U t F->(∀b,t b->d b)->U t Fy/\∀b,t b->f.heap[b]? =u.heap[b]? :=fun t F f=>
    ⟨r t (fun b hb h1=>F b hb (Y b h1)) (fun b hb=>o b (f b hb)),fun b hb=>hu b (o b (f b hb)) fun h1=>F b hb (Y b h1)⟩
  obtain⟨F,f⟩:=ap A y af;obtain⟨o,ar⟩:=ap B O ag;obtain⟨y,au⟩:=ap C z aj;obtain⟨O,ax⟩:=ap D ad al;obtain⟨z,az⟩:=ap G ae ao;have ad:∀b,Fy b->d b\/(Fy b/\¬N b):=fun b hb=>by
    by_cases ae:N b
    · refine .inl (am b (Y b ?_));refine Classical.byContradiction fun bc=>r (fun c=>c=b) (fun c hc h1=>bc (hc▸h1)) (fun c hc=>hc▸ae) b rfl hb
    · exact .inr ⟨hb,ae⟩
  refine⟨fun b=>d b\/Fy b,⟨A,B,C,D,Fy,G,GT.bh H fun b hb _=>f b hb,GT.bh I fun b hb _=>ar b hb,GT.bh J fun b hb _=>au b hb,GT.bh L fun b hb _=>ax b hb,hl,GT.bh R fun b hb _=>az b hb,⟨fun t A b hb=>?_,?_⟩,T,W,X⟩,fun b hb=>hb.elim .inl (ad b)⟩
  · simp only [List.mem_cons,List.not_mem_nil,or_false] at A;rcases A with rfl|rfl|rfl|rfl|rfl|rfl
    · exact .inl (af b hb)
    · exact .inl (ag b hb)
    · exact .inl (aj b hb)
    · exact .inl (al b hb)
    · exact .inr hb
    · exact .inl (ao b hb)
  · have:=s.IY;simp only [List.pairwise_cons,List.mem_cons,List.not_mem_nil,or_false,forall_eq_or_imp,forall_eq,false_imp_iff,implies_true,and_true,List.Pairwise.nil] at this ⊢;obtain⟨⟨A,B,C,D,G⟩,⟨H,I,J,L⟩,⟨R,T,W⟩,⟨X,Y⟩,d⟩:=this;exact⟨⟨A,B,C,F,G⟩,⟨H,I,o,L⟩,⟨R,y,W⟩,⟨O,Y⟩,z.symm⟩
theorem ag.Ki {σ:aX} {ops:Array Oper} {f:Act->World->Prop} {i:Nat} (S:ag P n w0 M u N β σ a w) {xs:List ay} {p:ak ay} {F:ah} (o:af w0 M u N F xs p) {l:List Int} {q:ak Int} (k:Nat) (hy:i_ u N l q) {by' lx ly:Nat} {d:Tmp} (hk:k<xs.length) (hl:(el xs k).ID.length+l.length<=a2)
    (K:∀t y z r Fy,ag P n w0 M y z β ⟨(d,.v (J ((el xs k).ID++l).length r.1))::σ.env,σ.aN⟩ t y->(∀b,N b->¬F b->z b/\y.heap[b]? =u.heap[b]?)->af w0 M y z F xs p->i_ y z ((el xs k).ID++l) r->
      (∀A,GT.own a2 A y (el xs k) (p.2 k)->(∀b,A b->F b)->∃B,GT.own a2 B y ({el xs k with ID:=(el xs k).ID++l}:ay) {p.2 k with ID:=r}/\∀b,B b->A b\/Fy b)->(∀A:ah,(∀b,A b->N b)->U A Fy)->(∀b,Fy b->z b)->(∀b,Fy b->w0.heap.size<=b\/M b)->
      f t y)
    (hlx:lx=(el xs k).ID.length:=by rfl) (hly:ly=l.length:=by rfl) (hop:iJ P n ops i σ=some (J lx (p.2 k).ID.1,J ly q.1,1,by',d):=by kernel_rfl):wpOp P ops Q i f a w:=by
  subst hlx hly;have C:dS a2 F u xs p:=o.own;obtain⟨A,D,G,H⟩:=C.el;have L:p.1.nil=false:=C.J4 (Nat.lt_of_lt_of_le (Nat.lt_of_le_of_lt (Nat.zero_le _) hk) C.cap);obtain⟨O,R⟩:=C.row L;have R:=D k hk;have L:=R;obtain⟨T,W,X,Y,f,l,_,_,_,_,ad,_,s,_,_,_⟩:=L;have h1:∀b,One (p.2 k).ID.1 b->A k b:=fun b hb=>s.sub f aM b (one_sub ad b hb);have L:∀b,One (p.2 k).ID.1 b->F b:=fun b hb=>(G k hk b (h1 b hb)).1;have T:af w0 M u N (One (p.2 k).ID.1) (el xs k).ID (p.2 k).ID:=⟨FU ad,fun b hb=>o.sub b (L b hb),fun b hb=>o.I1 b (L b hb)⟩;refine ag.append S T hy (Fy:=I) ⟨fun _=>I,fun i W=>(ae.el hy i W:au _),fun _ _ b h=>False.elim h,fun _ _ _ _ _ b h=>False.elim h⟩ (fun b _ h=>False.elim h) (fun b h=>False.elim h) (fun b h=>False.elim h) hop hl fun t y z r X ab aq bg Y f=>?_;obtain⟨l,_,he⟩:=f;have ad:=FT T.own T.sub bg.own he;have f:∀b,N b->¬One (p.2 k).ID.1 b->y.heap[b]? =u.heap[b]? :=fun b hb bc=>(aq b hb bc).2;have aj:∀al:ah,U al (One (p.2 k).ID.1)->(∀b,al b->N b)->U al X:=fun al am ao=>Y al am (fun b _ h=>False.elim h) ao;have Y:∀b,One (p.2 k).ID.1 b->b≠p.1.b:=fun b hb=>(G k hk b (h1 b hb)).2;have ao:∀i,i<xs.length->∀b,A i b->N b:=fun i W b hb=>o.sub b (G i W b hb).1;have ap:af w0 M y z F xs p:=by
    refine⟨?_,fun b hb=>l b (o.sub b hb),o.I1⟩;have ar:y.heap[p.1.b]? =u.heap[p.1.b]? :=f _ (o.sub _ O) fun hb=>Y _ hb rfl;refine(⟨C.le,C.cap,C.JD,C.null,fun O=>?_,fun i W=>(C.cell i W).JO ar,fun i=>if i=k then(fun b=>A k b\/(One (p.2 k).ID.1 b/\¬N b)) else A i,fun i W=>?_,fun i W b hb=>?_,fun i j W Y l=>?_⟩:dS a2 F y xs p)
    · obtain⟨h1,ax,az,ab,aq⟩:=C.row O;exact⟨h1,ax,az,ar.trans ab,aq⟩
    · by_cases e:i=k
      · subst e;simp only [if_true];obtain⟨B,C,O⟩:=zs (x:=el xs i) (p:=p.2 i) R ad (ao i hk) f (fun al am _=>am);exact GT.c5 C (Nat.le_refl _) O
      · simp only [e,if_false];exact GT.bh (D i W) fun b hb _=>f b (ao i W b hb) fun B=>H i k W hk e b hb (h1 b B)
    · by_cases e:i=k
      · subst e;simp only [if_true] at hb;rcases hb with hb|hb
        · exact G i W b hb
        · exact absurd (T.sub b hb.1) hb.2
      · simp only [e,if_false] at hb;exact G i W b hb
    · intro b hb B;have C:∀i,i<xs.length->(if i=k then(fun b=>A k b\/(One (p.2 k).ID.1 b/\¬N b)) else A i) b->A i b:=fun i W hb=>by
        by_cases e:i=k
        · subst e;simp only [if_true] at hb;exact hb.elim id fun hb=>absurd (T.sub b hb.1) hb.2
        · simp only [e,if_false] at hb;exact hb
      exact H i j W Y l b (C i W hb) (C j Y B)
  refine K t y z r (fun b=>X b/\¬N b) (by rw [List.length_append];exact ab) (fun b hb bc=>aq b hb fun h=>bc (L b h)) ap bg.Ix (fun al A B=>?_) (fun al B b hb h=>h.2 (B b hb)) (fun b hb=>bg.sub b hb.1) (fun b hb=>bg.I1 b hb.1);exact zs (u:=y) A bg.own (fun b hb=>o.sub b (B b hb)) (fun _ _ _=>rfl) aj
def r1 {α:Type} [GT α] (F:ah) (p:ak α) (w:World) (HP:List α) (e:Ending) (w':World):Prop:=
  ∃(lq:Nat->GT.Ptr α) (e1:ah),e= .returned (packed [])/\aW F w w'/\GT.own a2 e1 w' HP ((p.1,lq):ak α)/\(∀b,e1 b->F b\/(w.heap.size<=b/\b<w'.heap.size))
theorem ag.KO {α:Type} [GT α] {l:bL} {F:ah} {xs q:List α} {p:ak α} (S:ag P n w0 M u N β l.σ a w) (o:af w0 M u N F xs p) {f:FuncId} {r:List Value} {d:Tmp} (hc:Calls P f r.toArray w (r1 F p w q))
    (K:∀t y z A B,ag P n w0 M y z β (l.put d (packed [])).σ t y->(∀b,N b->¬F b->z b/\y.heap[b]? =u.heap[b]?)->af w0 M y z B q ((p.1,A):ak α)->(∀C:ah,U C F->(∀b,C b->N b)->U C B)->bU P Q (l.put d (packed [])) t y)
    (hcall:ep P n l.aQ.opsOf l.aQ.idx l.σ=some (f,r,d):=by kernel_rfl) (hd:Nat.blt d n=true:=by kernel_rfl) (D:l.aQ.Jk=true:=by kernel_rfl):bU P Q l a w:=
  ⟨lo (S.call hcall hc fun _ y ⟨A,B,he,G,H,aF⟩=>⟨_,he,(K _ y _ A B ((S.JC G o.sub o.I1).put (j3 hd) (fun _ _ e=>by cases e)) (S.IL G)
    ⟨H,fun b h=>(aF b h).elim (fun h=> .inl (o.sub b h)) .inr,fun b h=>(aF b h).elim (o.I1 b) (fun h=> .inl (Nat.le_trans S.I7.size h.1))⟩
    (fun C A B b h1 ab=>(aF b ab).elim (A b h1) (fun h=>by have:=(S.sep b (B b h1)).1;omega))).ok⟩) D⟩
theorem uY {α:Type} [GT α] {σ:aX} {F d:ah} {f x:List α} {p:ak α} {l:Nat->GT.Ptr α} (S:ag P n w0 F u N β σ a w) (h:f=x) (o:af w0 F u N d x ((p.1,l):ak α)):r1 F p w0 f (.returned (packed [])) w:=by
  subst h;exact⟨l,d,rfl,S.I7,GT.bh o.own (fun b hb _=>(S.sep b (o.sub b hb)).2.1),fun b hb=>(o.I1 b hb).elim (fun h=> .inr ⟨h,(S.sep b (o.sub b hb)).1⟩) .inl⟩
end
end Go.Proofs.YtkggcdhigchepaaGreat
namespace Go.Proofs.YtkggcdhigchepaaGreat
open Go
set_option linter.unusedVariables false
theorem Aa {xs:List ay} {k:Nat} (hk:k<xs.length):xs.set k ({el xs k with owned:=(el xs k).owned}:ay)=xs:=by
  show xs.set k (el xs k)=xs;rw [hK hk,List.set_getElem_self]
theorem Gd {o i k:Int} (h:ez o i k=1):eu i k=true:=by
  unfold ez at h;split at h
  · assumption
  · split at h<;>omega
theorem zN {o i k:Int} (h:¬ez o i k=1):eu i k=false:=by
  unfold ez at h;split at h
  · exact absurd rfl h
  · rename_i h1;simpa using h1
variable {m:ay} {y:ai} {want:Int}
theorem F_ (d:want=5\/want=7) (h:ez m.aK y.IJ.aK (da want)=2) (ab:m.owned<1000000000):dt m y want=m.owned+1:=by
  unfold dt;rw [if_pos ⟨⟨V,h⟩,ab⟩]
theorem uM (h:¬ez m.aK y.IJ.aK (da want)=2\/¬m.owned<1000000000):dt m y want=m.owned:=by
  unfold dt;rw [if_neg (fun h1=>h.elim (fun h=>h h1.1.2) (fun h=>h h1.2))]
theorem HL (d:want=5\/want=7) (h:eu y.IJ.aK (da want)=true):cI y y.IJ.aK want=(hR y want,false):=by
  rcases d with e|e<;>subst e
  · have h:eu y.IJ.aK 1=true:=h;unfold cI hR;rw [if_neg (by decide),if_pos ⟨rfl,h⟩,if_pos rfl]
  · have h:eu y.IJ.aK 2=true:=h;unfold cI hR;rw [if_neg (by decide),if_neg (by rintro⟨h,-⟩;exact absurd h (by decide)),if_pos ⟨rfl,h⟩,if_neg (by decide)]
theorem AD (d:want=5\/want=7) (h:eu y.IJ.aK (da want)=false):cI y y.IJ.aK want=(if want=7 then dj y else aV y,true):=by
  rcases d with e|e<;>subst e
  · have h:eu y.IJ.aK 1=false:=h;unfold cI;rw [if_neg (by decide),if_neg (by rw [h];simp),if_neg (by rintro⟨h,-⟩;exact absurd h (by decide)),if_neg (by decide),if_neg (by decide)]
  · have h:eu y.IJ.aK 2=false:=h;unfold cI;rw [if_neg (by decide),if_neg (by rintro⟨h,-⟩;exact absurd h (by decide)),if_neg (by rw [h];simp),if_pos rfl,if_pos rfl]
theorem Fk {xs:List ay} {k:Nat} {g:Int} (d:want=5\/want=7) (h:ez m.aK y.IJ.aK (da want)=1):xs.set k (fh m g y want)=xs.set k ({m with L:=m.L.set g.toNat (hR y want)}:ay):=by
  unfold fh gm;rw [HL d (Gd h),uM (.inl V),if_neg (fun h=>by have:=h.1.1;cases this)]
theorem Fi {xs d:List ay} {k:Nat} {g f:Int} (cZ:d=xs.set k ({el xs k with owned:=f}:ay)) (he:el d k=({el xs k with owned:=f}:ay)) (l:f=dt (el xs k) y want) (h:¬ez (el xs k).aK y.IJ.aK (da want)=1) (o:want=7):
    xs.set k (fh (el xs k) g y want)=d.set k ({el d k with L:=(el d k).L.set g.toNat (dj y)}:ay):=by
  rw [he,cZ,List.set_set];unfold fh gm;rw [AD (.inr o) (zN h),←l,if_pos o,if_neg (fun h=>by have:=h.1.2;omega)]
theorem Fj {xs d:List ay} {k:Nat} {g f:Int} {l:List Int} (cZ:d=xs.set k ({el xs k with owned:=f,ID:=l}:ay)) (he:el d k=({el xs k with owned:=f,ID:=l}:ay)) (o:f=dt (el xs k) y want) (h:¬ez (el xs k).aK y.IJ.aK (da want)=1) (q:want=5)
    (A:l=if(el xs k).ID.length<40 then(el xs k).ID++[(a9 y.prog y.ar).x] else(el xs k).ID):
    xs.set k (fh (el xs k) g y want)=d.set k ({el d k with L:=(el d k).L.set g.toNat (aV y)}:ay):=by
  rw [he,cZ,List.set_set];unfold fh gm;rw [AD (.inl q) (zN h),←o,if_neg V];have e:(if((true=true/\want=5)/\(el xs k).ID.length<40) then(el xs k).ID++[(a9 y.prog y.ar).x] else(el xs k).ID)=l:=by
    rw [A];by_cases h:(el xs k).ID.length<40
    · rw [if_pos h,if_pos ⟨⟨rfl,q⟩,h⟩]
    · rw [if_neg h,if_neg (fun h1=>h h1.2)]
  simp only at e ⊢;rw [e]
theorem fB {w0 u:World} {M N F:ah} {d xs:List ay} {f:gE} {l:Nat->cA} {k g:Nat} {dd:cA} (o:af w0 M u N F d ((f,l):ak ay)) (he:(el d k).L=(el xs k).L) (aY:(l k).L=dd.L) (hk:k<d.length) (aA:g<(el xs k).L.length):
    GT.rd a2 N u (el (el xs k).L g) (dd.L.2 g):=by
  have h1:GT.rd a2 N u (el d k).L (l k).L:=az.L (d:=el d k) (ae.el o.Ix k hk);rw [he,aY] at h1;exact ae.el h1 g aA
section
variable {h:aa} {m g:Int}
theorem p_ (e:b8 h=false):ew h m g=(h,false):=hU (.inl (by unfold gL;rw [e];rfl))
theorem HN {x a b:Int} (e:¬(a<=x/\x<=b)):av x a b=false:=by
  cases h:av x a b with
  |false=>rfl
  |true=>exact absurd (bj h) e
theorem qa (e:(aH h m).2=false):ew h m g=(h,false):=by
  have h1:=zq e;refine hU (.inl ?_);unfold gL;rw [HN (fun ab=>h1 V),Bool.and_false,Bool.false_and]
theorem qb (d:(aH h m).2=true) (e:av g 0 (((aH h m).1.L.length:Int)-1)=false):ew h m g=(h,false):=by
  rw [l0 (ll d)] at e;refine hU (.inl ?_);unfold gL;rw [e,Bool.and_false]
theorem qc (d:(aH h m).2=true) (e:bw (el (aH h m).1.L g.toNat)=0):ew h m g=(h,false):=by
  rw [l0 (ll d)] at e;exact hU (.inr e)
theorem tf (d:b8 h=true) (f:(aH h m).2=true) (l:av g 0 (((aH h m).1.L.length:Int)-1)=true):gL h m g=true:=by
  have h1:=ll f;rw [l0 h1] at l;unfold gL;rw [d,l,show av m 0 ((h.H.length:Int)-1)=true from by unfold av;simp;omega];rfl
theorem mU (d:b8 h=true) (f:(aH h m).2=true) (l:av g 0 (((aH h m).1.L.length:Int)-1)=true) (o:¬bw (el (aH h m).1.L g.toNat)=0):
    ew h m g=(jQ h m g (el (aH h m).1.L g.toNat) (bw (el (aH h m).1.L g.toNat)),true):=by
  have h1:=tf d f l;rw [l0 (ll f)] at o ⊢;exact iR h1 o
theorem x8 (d:b8 h=true) (f:(aH h m).2=true) (l:av g 0 (((aH h m).1.L.length:Int)-1)=true) (o:bw (el (aH h m).1.L g.toNat)=5\/bw (el (aH h m).1.L g.toNat)=7):
    ew h m g=(⟨h.Iy,h.H.set m.toNat (fh (el h.H m.toNat) g (el (el h.H m.toNat).L g.toNat) (bw (el (aH h m).1.L g.toNat))),h.IB,h.IC⟩,true):=by
  rw [mU d f l V,p9 V V V V];rw [l0 (ll f)];rfl
theorem rF (hm:0<=m/\m<h.H.length):(aJ h m).L=(el h.H m.toNat).L:=by unfold aJ;rw [if_pos hm]
theorem x7 (d:b8 h=true) (f:(aH h m).2=true) (l:av g 0 (((aH h m).1.L.length:Int)-1)=true) (o:bw (el (aH h m).1.L g.toNat)=1\/bw (el (aH h m).1.L g.toNat)=2\/bw (el (aH h m).1.L g.toNat)=6):
    ew h m g=(⟨h.Iy,h.H.set m.toNat ({el h.H m.toNat with L:=(fu (aJ h m) g).1.L}:ay),h.IB,h.IC⟩,true):=by
  have q:=ll f;have aA:=(rO (tf d f l)).2.2;rw [mU d f l V];rw [l0 q] at o ⊢;have r:fu (aJ h m) g=(gS (aJ h m) g (el (el h.H m.toNat).L g.toNat) (bw (el (el h.H m.toNat).L g.toNat)),true):=by
    unfold fu;rw [rF q,if_pos ⟨rE d q,aA,V⟩]
  rw [r];rcases o with o|o|o
  · rw [tc o,oJ o,rF q];rfl
  · rw [td o,oK o,rF q];rfl
  · rw [p9 V V V V,q2 o,rF q];unfold kK fh cI gm dt;rw [if_pos o,if_neg (fun h=>by omega),if_neg (fun h=>h.1.1 o)]
end
end Go.Proofs.YtkggcdhigchepaaGreat
namespace Go.Proofs.YtkggcdhigchepaaGreat
open Go
set_option linter.unusedVariables false
def GE (h pJ:aa):Prop:=pJ.H.length=h.H.length/\∀k,(el pJ.H k).L=(el h.H k).L
theorem GE.Ja (h:aa):GE h h:=⟨rfl,fun _=>rfl⟩
theorem GE.Jd {a b c:aa} (h:GE a b) (d:GE b c):GE a c:=⟨d.1.trans h.1,fun k=>(d.2 k).trans (h.2 k)⟩
theorem xb (xs:List ay) (i k:Nat) (x:ay) (e:x.L=(el xs i).L):(el (xs.set i x) k).L=(el xs k).L:=by
  by_cases d:i<xs.length
  · rw [sP _ _ _ _ d];split
    · rename_i h;subst h;exact e
    · rfl
  · rw [List.set_eq_of_length_le V]
theorem GE.m (h:aa) (m:Nat) (x:ay) (a:List (List Int)) (b c:List aG) (e:x.L=(el h.H m).L):GE h ⟨a,h.H.set m x,b,c⟩:=⟨List.length_set,fun k=>xb _ _ _ _ e⟩
theorem GE.J5 {a h:aa} (g:GE a h) (m:Int) (x:ay) (e:x.L=(el h.H m.toNat).L):GE a (eW h m x):=g.Jd (GE.m _ _ _ _ _ _ e)
theorem GE.slot {a h:aa} (g:GE a h) (m Z:Int) (s:aw):GE a (eB h m Z s):=g.Jd (GE.m _ _ _ _ _ _ rfl)
theorem GE.send (h:aa) (m Z:Int):GE h (dW h m Z):=by unfold dW;exact GE.slot (GE.J5 (GE.Ja h) _ _ (by rfl)) _ _ _
theorem GE.put (h:aa) (m Z:Int):GE h (ik h m Z):=by
  unfold ik;refine GE.slot ?_ _ _ _;exact GE.m _ _ _ _ _ _ rfl
theorem GE.room (h:aa):GE h (e8 h):=by
  unfold e8;split
  · exact GE.Ja _
  · exact GE.send _ _ _
theorem GE.mid (h:aa) (m Z:Int):GE h (dU h m Z):=by
  unfold dU;split
  · exact(GE.room h).Jd (GE.put _ _ _)
  · exact GE.Ja _
theorem GE.b2 (h:aa) (m Z:Int):GE h (il h m Z):=by
  unfold il;split
  · exact GE.J5 (GE.Ja h) _ _ (by rfl)
  · exact GE.slot (GE.J5 (GE.Ja h) _ _ (by rfl)) _ _ _
theorem GE.K2 (h:aa) (m Z a7:Int):GE h (cT h m Z a7):=by
  unfold cT;split
  · exact(GE.mid _ _ _).Jd (GE.b2 _ _ _)
  · exact GE.mid _ _ _
theorem GE.io (h:aa) (b:Bool) (e:aG):GE h (kJ h b e):=⟨by unfold kJ;split<;>rfl,fun k=>by unfold kJ;split<;>rfl⟩
theorem GE.to (h:aa) (m g Z a7 q:Int) (d:Bool):GE h (gl h m g Z a7 q d).1:=by
  unfold gl;split
  · exact GE.Ja _
  · split
    · unfold jR nY;refine GE.Jd (GE.J5 (GE.K2 h m q a7) m _ ?_) (GE.io _ _ _);rfl
    · exact GE.io _ _ _
theorem zl (h:aa) (m g Z a7:Int) (d:Bool):GE h (bp h m g Z a7 d).1:=by
  unfold bp;split
  · refine GE.Jd ?_ (GE.to _ _ _ _ _ _ _);unfold eO;split
    · unfold jh;exact GE.J5 (GE.Ja h) _ _ (by rfl)
    · exact GE.Ja _
  · exact GE.Ja _
theorem ix {h d:aa} {m g Z a7:Int} {f:Bool} {k:Nat} (hY:d=(bp h m g Z a7 f).1):(el d.H k).L=(el h.H k).L:=by
  subst hY;exact(zl h m g Z a7 f).2 k
theorem rI {d xs:List ay} {k:Nat} {y:List ai} (h:d=xs.set k {el xs k with L:=y}) (hk:k<xs.length) (hy:y.length=(el xs k).L.length):(d.length=xs.length/\(el d k).ad.length=(el xs k).ad.length/\(el d k).out.length=(el xs k).out.length/\(el d k).IK.length=(el xs k).IK.length/\(el d k).L.length=(el xs k).L.length/\(el d k).ID.length=(el xs k).ID.length/\(el d k).Iz.length=(el xs k).Iz.length)/\el d k={el xs k with L:=y}:=by
  subst h;rw [b4 hk];exact⟨⟨List.length_set,rfl,rfl,rfl,hy,rfl,rfl⟩,rfl⟩
section
variable {h Y:aa} {m g:Int} {x:ai} {b2:Bool} {X:List ay}
theorem HI (hY:Y=(bp h m g (bk (bs x)) (cE b2) false).1) (e:(bp h m g (bk (bs x)) (cE b2) false).2.2=false) (cZ:X=Y.H.set m.toNat ({el Y.H m.toNat with L:=(el Y.H m.toNat).L.set g.toNat {x with exit:=eV (bk (bs x)) b2}}:ay)):hQ h m g x b2=⟨Y.Iy,X,Y.IB,Y.IC⟩:=by
  unfold hQ gI;rw [if_pos e,←hY,cZ];rfl
theorem HJ (hY:Y=(bp h m g (bk (bs x)) (cE b2) false).1) (e:(bp h m g (bk (bs x)) (cE b2) false).2.2=true) (d:b2=true) (cZ:X=Y.H.set m.toNat ({el Y.H m.toNat with L:=(el Y.H m.toNat).L.set g.toNat (aV x)}:ay)):hQ h m g x b2=⟨cN Y.Iy (bp h m g (bk (bs x)) (cE b2) false).2.1 (b5 (bs x)) x.aT,X,Y.IB,Y.IC⟩:=by
  unfold hQ gI;rw [if_neg (by rw [e];decide),if_pos d,←hY,cZ];rfl
theorem HH (hY:Y=(bp h m g (bk (bs x)) (cE b2) false).1) (e:(bp h m g (bk (bs x)) (cE b2) false).2.2=true) (d:b2=false) (cZ:X=Y.H.set m.toNat ({el Y.H m.toNat with L:=(el Y.H m.toNat).L.set g.toNat (fg x (di Y.Iy (bp h m g (bk (bs x)) (cE b2) false).2.1 (b5 (bs x))))}:ay)):hQ h m g x b2=⟨Y.Iy,X,Y.IB,Y.IC⟩:=by
  unfold hQ gI;rw [if_neg (by rw [e];decide),if_neg (by rw [d];decide),←hY,cZ];rfl
end
section
variable {xs dh X:List ay} {k:Nat} {x:ai} {want t:Int}
theorem rf (hc:(((want != 6)&&(ez (el xs k).aK x.IJ.aK t==2))&&decide ((el xs k).owned<1000000000))=true) (d:t=da want):xs.set k ({el xs k with owned:=(el xs k).owned+1}:ay)=xs.set k ({el xs k with owned:=dt (el xs k) x want}:ay):=by
  subst d;simp only [Bool.and_eq_true,bne_iff_ne,ne_eq,beq_iff_eq,decide_eq_true_eq] at hc;unfold dt;rw [if_pos hc]
theorem q_ (hc:(((want != 6)&&(ez (el xs k).aK x.IJ.aK t==2))&&decide ((el xs k).owned<1000000000))=false) (d:t=da want):xs=xs.set k ({el xs k with owned:=dt (el xs k) x want}:ay):=by
  subst d;have f:¬((¬want=6/\ez (el xs k).aK x.IJ.aK (da want)=2)/\(el xs k).owned<1000000000):=fun h=>by
    rw [Bool.eq_false_iff] at hc;apply hc;simp only [Bool.and_eq_true,bne_iff_ne,ne_eq,beq_iff_eq,decide_eq_true_eq];exact h
  unfold dt;rw [if_neg f];exact ns.symm
theorem rh (h1:¬want=6) (ab:ez (el xs k).aK x.IJ.aK t=2) (aq:(el xs k).owned<1000000000) (d:t=da want):xs.set k ({el xs k with owned:=(el xs k).owned+1}:ay)=xs.set k ({el xs k with owned:=dt (el xs k) x want}:ay):=by
  subst d;unfold dt;rw [if_pos ⟨⟨h1,ab⟩,aq⟩]
theorem uN (hc:¬((¬want=6/\ez (el xs k).aK x.IJ.aK (da want)=2)/\(el xs k).owned<1000000000)):xs=xs.set k ({el xs k with owned:=dt (el xs k) x want}:ay):=by
  unfold dt;rw [if_neg hc];exact ns.symm
theorem ra (h1:want=6):xs=xs.set k ({el xs k with owned:=dt (el xs k) x want}:ay):=uN fun h=>h.1.1 h1
theorem rb (ab:¬ez (el xs k).aK x.IJ.aK t=2) (d:t=da want):xs=xs.set k ({el xs k with owned:=dt (el xs k) x want}:ay):=uN fun h=>ab (d▸h.1.2)
theorem re (aq:¬(el xs k).owned<1000000000):xs=xs.set k ({el xs k with owned:=dt (el xs k) x want}:ay):=uN fun h=>aq h.2
theorem q8 (d:dh=xs.set k ({el xs k with owned:=dt (el xs k) x want}:ay)) (h1:(cI x x.IJ.aK want).2=true) (ab:want=5) (aq:(((el dh k).ID.length:Nat):Int)<40) (hk:k<xs.length:=by omega):
    dh.set k ({el dh k with ID:=(el dh k).ID++[(a9 x.prog x.ar).x]}:ay)=xs.set k ({el xs k with owned:=dt (el xs k) x want,ID:=gm (el xs k) x want}:ay):=by
  rw [d,b4 hk] at aq ⊢;rw [List.set_set];unfold gm;rw [if_pos ⟨⟨h1,ab⟩,by simp only at aq;omega⟩]
theorem uD (d:dh=xs.set k ({el xs k with owned:=dt (el xs k) x want}:ay)) (hc:¬(((cI x x.IJ.aK want).2=true/\want=5)/\(el dh k).ID.length<40)) (hk:k<xs.length:=by omega):
    dh=xs.set k ({el xs k with owned:=dt (el xs k) x want,ID:=gm (el xs k) x want}:ay):=by
  have e:(el dh k).ID=(el xs k).ID:=by rw [d,b4 hk]
  rw [e] at hc;unfold gm;rw [if_neg hc];exact d
theorem q4 (d:dh=xs.set k ({el xs k with owned:=dt (el xs k) x want}:ay)) (h1:(cI x x.IJ.aK want).2=false) (hk:k<xs.length:=by omega):
    dh=xs.set k ({el xs k with owned:=dt (el xs k) x want,ID:=gm (el xs k) x want}:ay):=uD d (fun h=>by rw [h1] at h;cases h.1.1) hk
theorem q5 (d:dh=xs.set k ({el xs k with owned:=dt (el xs k) x want}:ay)) (h1:¬want=5) (hk:k<xs.length:=by omega):
    dh=xs.set k ({el xs k with owned:=dt (el xs k) x want,ID:=gm (el xs k) x want}:ay):=uD d (fun h=>h1 h.1.2) hk
theorem q6 (d:dh=xs.set k ({el xs k with owned:=dt (el xs k) x want}:ay)) (h1:¬(((el dh k).ID.length:Nat):Int)<40) (hk:k<xs.length:=by omega):
    dh=xs.set k ({el xs k with owned:=dt (el xs k) x want,ID:=gm (el xs k) x want}:ay):=uD d (fun h=>h1 V) hk
theorem og {o:Int} (d:dh=xs.set k ({el xs k with owned:=o}:ay)):(el dh k).L=(el xs k).L:=by
  subst d;exact xb _ _ _ _ rfl
theorem Ga {o:Int} (d:dh=xs.set k ({el xs k with owned:=o}:ay)) (hk:k<xs.length):dh.length=xs.length/\(el dh k).L.length=(el xs k).L.length/\(el dh k).ID.length=(el xs k).ID.length:=by
  subst d;rw [b4 hk];exact⟨List.length_set,rfl,rfl⟩
theorem F7 {o:Int} {d:List Int} (f:dh=xs.set k ({el xs k with owned:=o,ID:=d}:ay)) (hk:k<xs.length):dh.length=xs.length/\(el dh k).L.length=(el xs k).L.length:=by
  subst f;rw [b4 hk];exact⟨List.length_set,rfl⟩
theorem q7 (d:dh=xs.set k ({el xs k with owned:=dt (el xs k) x want}:ay)) (cZ:X=dh.set k ({el dh k with ID:=(el dh k).ID++[(a9 x.prog x.ar).x]}:ay)) (hc:(((cI x x.IJ.aK want).2&&(want==5))&&decide ((el dh k).ID.length<40))=true) (hk:k<xs.length:=by omega):
    X=xs.set k ({el xs k with owned:=dt (el xs k) x want,ID:=gm (el xs k) x want}:ay):=by
  simp only [Bool.and_eq_true,beq_iff_eq,decide_eq_true_eq] at hc;subst cZ;rw [d,b4 hk] at hc ⊢;rw [List.set_set];unfold gm;rw [if_pos hc]
theorem q3 (d:dh=xs.set k ({el xs k with owned:=dt (el xs k) x want}:ay)) (hc:(((cI x x.IJ.aK want).2&&(want==5))&&decide ((el dh k).ID.length<40))=false) (hk:k<xs.length:=by omega):
    dh=xs.set k ({el xs k with owned:=dt (el xs k) x want,ID:=gm (el xs k) x want}:ay):=by
  have f:¬(((cI x x.IJ.aK want).2=true/\want=5)/\(el xs k).ID.length<40):=fun h=>by
    rw [Bool.eq_false_iff] at hc;apply hc;simp only [Bool.and_eq_true,beq_iff_eq,decide_eq_true_eq];rw [d,b4 hk];exact h
  unfold gm;rw [if_neg f];exact d
theorem HK {h:aa} {m g:Int} {x:ai} {dh X:List ay} (d:dh=h.H.set m.toNat ({el h.H m.toNat with owned:=dt (el h.H m.toNat) x want,ID:=gm (el h.H m.toNat) x want}:ay))
    (cZ:X=dh.set m.toNat ({el dh m.toNat with L:=(el dh m.toNat).L.set g.toNat (cI x x.IJ.aK want).1}:ay)) (hk:m.toNat<h.H.length:=by omega):kK h m (fh (el h.H m.toNat) g x want)=⟨h.Iy,X,h.IB,h.IC⟩:=by
  subst cZ;rw [d,b4 hk,List.set_set];rfl
end
theorem EX (h:aa) (m g:Int):(ew h m g).1.H.length=h.H.length:=by
  unfold ew;split
  · simp only;generalize el (el h.H m.toNat).L g.toNat=x;generalize bw x=want;unfold jQ iP kK
    repeat' split
    · exact List.length_set
    · exact List.length_set
    · have e:=(zl h m g (bk (bs x)) (cE (want==4)) false).1;unfold hQ iP gI
      repeat' split
      all_goals exact List.length_set.trans e
    · exact List.length_set
  · rfl
theorem G7 {F:ah} {w:World} {d:aa} {q:a1} (aU:GT.rd a2 F w d q) (hm:d.H.length<=3):al.ao d<=9000000000000000:=by
  have f:=ch.Ji (a4.Iy (d:=d) aU);have ab:=ch.Ji (a4.IB (d:=d) aU);have aq:=ch.Ji (a4.IC (d:=d) aU);have h1:=ve (m:=ch.B ay) d.H fun A B=>by
    obtain⟨i,A,rfl⟩:=List.getElem_of_mem B;have:=ae.el (a4.H (d:=d) aU) i A;rw [hK A] at this;exact ch.Ji this
  have A:ch.B (List (List Int))<=20000000000000:=by decide
  have A:ch.B ay<=500000000000000:=by decide
  have B:ch.B (List aG)<=5000000:=by decide
  have bg:d.H.length*ch.B ay<=3*500000000000000:=Nat.mul_le_mul hm A;have B:=cg d.H;unfold c1 at B;rw [fj];omega
theorem Hj {F:ah} {w:World} {q:a1} (h:aa) (m g:Int) (aU:GT.rd a2 F w (ew h m g).1 q):al.ao (ew h m g).1<=al.ao h+9000000000000000:=by
  by_cases e:gL h m g=true
  · have h1:=G7 aU (by rw [EX];exact(fz (rO e).1).2.1);omega
  · rw [hU (.inl (by simpa using e))];simp only;omega
end Go.Proofs.YtkggcdhigchepaaGreat
namespace Go.Proofs.YtkggcdhigchepaaGreat
open Go
set_option linter.unusedVariables false
def bN (p lq:Nat->cA):Prop:=∀i,(lq i).L=(p i).L
theorem bN.Ja (p:Nat->cA):bN p p:=fun _=>rfl
theorem bN.Jd {p q r:Nat->cA} (h:bN p q) (d:bN q r):bN p r:=fun i=>(d i).trans (h i)
theorem bN.st {p:Nat->cA} {k:Nat} {q:cA} (h:q.L=(p k).L):bN p (fun i=>if i=k then q else p i):=fun i=>by
  by_cases e:i=k
  · subst e;simp only [if_true];exact h
  · simp only [if_neg e]
section
variable {w0:World} {M:ah} {u:World} {N:ah}
theorem xy {xs:List ay} {p:ak ay} {F:ah} (o:af w0 M u N F xs p) {k:Nat} (hk:k<xs.length):
    ∃
      d:ah,af w0 M u N d (el xs k).ad (p.2 k).ad/\(∀b,d b->F b)/\∀(f:World) (l:ah) (y:List aw) (q:GT.Ptr (List aw)) (r Fy:ah),(∀b,N b->¬d b->l b/\f.heap[b]? =u.heap[b]?)->af w0 M f l r y q->(∀b,r b->d b\/Fy b)->U F Fy->GT.cells y q=GT.cells (el xs k).ad (p.2 k).ad->(∀b,d b->l b)->
      ∃t,af w0 M f l (Or F r) (xs.set k {el xs k with ad:=y}) (p.1,t)/\(∀j,GT.cells (el (xs.set k {el xs k with ad:=y}) j) (t j)=GT.cells (el xs j) (p.2 j))/\bN p.2 t:=by
  obtain⟨d,h1,ab,aq⟩:=o.JY hk (fun x=>x.ad) (fun A=>A.ad) (fun x y=>{x with ad:=y}) (fun A q=>{A with ad:=q}) fun B u x A h=>by
    obtain⟨B,C,D,G,H,I,K,L,P,Q,R,T,s,W,X,Y⟩:=h;refine⟨B,K,s.sub _ aM,fun f y q r Fy t w z ad hc=>⟨⟨r,C,D,G,H,I,t,GT.bh L fun b hb _=>ad b (s.sub _ aM b hb) fun B=>(bz s.IY (i:=0) (j:=1) (by decide) rfl rfl) b B hb,GT.bh P fun b hb _=>ad b (s.sub _ aM b hb) fun B=>(bz s.IY (i:=0) (j:=2) (by decide) rfl rfl) b B hb,GT.bh Q fun b hb _=>ad b (s.sub _ aM b hb) fun B=>(bz s.IY (i:=0) (j:=3) (by decide) rfl rfl) b B hb,GT.bh R fun b hb _=>ad b (s.sub _ aM b hb) fun B=>(bz s.IY (i:=0) (j:=4) (by decide) rfl rfl) b B hb,GT.bh T fun b hb _=>ad b (s.sub _ aM b hb) fun B=>(bz s.IY (i:=0) (j:=5) (by decide) rfl rfl) b B hb,gR s (i:=0) rfl w z,W,X,Y⟩,?_⟩⟩;have e:=(List.cons.inj hc).1;show [J y.length q.1,J x.out.length A.out.1,J x.IK.length A.IK.1,J x.L.length A.L.1,J x.ID.length A.ID.1,O x.IA,O x.aK,J x.Iz.length A.Iz.1,O x.owned]=[J x.ad.length A.ad.1,J x.out.length A.out.1,J x.IK.length A.IK.1,J x.L.length A.L.1,J x.ID.length A.ID.1,O x.IA,O x.aK,J x.Iz.length A.Iz.1,O x.owned];rw [e]
  exact⟨d,h1,ab,fun f l y q r Fy a b c A e B=>⟨_,(aq f l y q r Fy a b c A e B).1,(aq f l y q r Fy a b c A e B).2,bN.st rfl⟩⟩
theorem xx {xs:List ay} {p:ak ay} {F:ah} (o:af w0 M u N F xs p) {k:Nat} (hk:k<xs.length):
    ∃
      d:ah,af w0 M u N d (el xs k).out (p.2 k).out/\(∀b,d b->F b)/\∀(f:World) (l:ah) (y:List (List Int)) (q:GT.Ptr (List (List Int))) (r Fy:ah),(∀b,N b->¬d b->l b/\f.heap[b]? =u.heap[b]?)->af w0 M f l r y q->(∀b,r b->d b\/Fy b)->U F Fy->GT.cells y q=GT.cells (el xs k).out (p.2 k).out->(∀b,d b->l b)->
      ∃t,af w0 M f l (Or F r) (xs.set k {el xs k with out:=y}) (p.1,t)/\(∀j,GT.cells (el (xs.set k {el xs k with out:=y}) j) (t j)=GT.cells (el xs j) (p.2 j))/\bN p.2 t:=by
  obtain⟨d,h1,ab,aq⟩:=o.JY hk (fun x=>x.out) (fun A=>A.out) (fun x y=>{x with out:=y}) (fun A q=>{A with out:=q}) fun B u x A h=>by
    obtain⟨B,C,D,G,H,I,K,L,P,Q,R,T,s,W,X,Y⟩:=h;refine⟨C,L,s.sub _ aM,fun f y q r Fy t w z ad hc=>⟨⟨B,r,D,G,H,I,GT.bh K fun b hb _=>ad b (s.sub _ aM b hb) fun B=>(bz s.IY (i:=0) (j:=1) (by decide) rfl rfl) b hb B,t,GT.bh P fun b hb _=>ad b (s.sub _ aM b hb) fun B=>(bz s.IY (i:=1) (j:=2) (by decide) rfl rfl) b B hb,GT.bh Q fun b hb _=>ad b (s.sub _ aM b hb) fun B=>(bz s.IY (i:=1) (j:=3) (by decide) rfl rfl) b B hb,GT.bh R fun b hb _=>ad b (s.sub _ aM b hb) fun B=>(bz s.IY (i:=1) (j:=4) (by decide) rfl rfl) b B hb,GT.bh T fun b hb _=>ad b (s.sub _ aM b hb) fun B=>(bz s.IY (i:=1) (j:=5) (by decide) rfl rfl) b B hb,gR s (i:=1) rfl w z,W,X,Y⟩,?_⟩⟩;have e:=(List.cons.inj hc).1;show [J x.ad.length A.ad.1,J y.length q.1,J x.IK.length A.IK.1,J x.L.length A.L.1,J x.ID.length A.ID.1,O x.IA,O x.aK,J x.Iz.length A.Iz.1,O x.owned]=[J x.ad.length A.ad.1,J x.out.length A.out.1,J x.IK.length A.IK.1,J x.L.length A.L.1,J x.ID.length A.ID.1,O x.IA,O x.aK,J x.Iz.length A.Iz.1,O x.owned];rw [e]
  exact⟨d,h1,ab,fun f l y q r Fy a b c A e B=>⟨_,(aq f l y q r Fy a b c A e B).1,(aq f l y q r Fy a b c A e B).2,bN.st rfl⟩⟩
theorem sX {xs:List ay} {p:ak ay} {F:ah} (o:af w0 M u N F xs p) {k:Nat} (hk:k<xs.length):
    ∃
      d:ah,af w0 M u N d (el xs k).IK (p.2 k).IK/\(∀b,d b->F b)/\∀(f:World) (l:ah) (y:List Bool) (q:GT.Ptr (List Bool)) (r Fy:ah),(∀b,N b->¬d b->l b/\f.heap[b]? =u.heap[b]?)->af w0 M f l r y q->(∀b,r b->d b\/Fy b)->U F Fy->GT.cells y q=GT.cells (el xs k).IK (p.2 k).IK->(∀b,d b->l b)->
      ∃t,af w0 M f l (Or F r) (xs.set k {el xs k with IK:=y}) (p.1,t)/\(∀j,GT.cells (el (xs.set k {el xs k with IK:=y}) j) (t j)=GT.cells (el xs j) (p.2 j))/\bN p.2 t:=by
  obtain⟨d,h1,ab,aq⟩:=o.JY hk (fun x=>x.IK) (fun A=>A.IK) (fun x y=>{x with IK:=y}) (fun A q=>{A with IK:=q}) fun B u x A h=>by
    obtain⟨B,C,D,G,H,I,K,L,P,Q,R,T,s,W,X,Y⟩:=h;refine⟨D,P,s.sub _ aM,fun f y q r Fy t w z ad hc=>⟨⟨B,C,r,G,H,I,GT.bh K fun b hb _=>ad b (s.sub _ aM b hb) fun B=>(bz s.IY (i:=0) (j:=2) (by decide) rfl rfl) b hb B,GT.bh L fun b hb _=>ad b (s.sub _ aM b hb) fun B=>(bz s.IY (i:=1) (j:=2) (by decide) rfl rfl) b hb B,t,GT.bh Q fun b hb _=>ad b (s.sub _ aM b hb) fun B=>(bz s.IY (i:=2) (j:=3) (by decide) rfl rfl) b B hb,GT.bh R fun b hb _=>ad b (s.sub _ aM b hb) fun B=>(bz s.IY (i:=2) (j:=4) (by decide) rfl rfl) b B hb,GT.bh T fun b hb _=>ad b (s.sub _ aM b hb) fun B=>(bz s.IY (i:=2) (j:=5) (by decide) rfl rfl) b B hb,gR s (i:=2) rfl w z,W,X,Y⟩,?_⟩⟩;have e:=(List.cons.inj hc).1;show [J x.ad.length A.ad.1,J x.out.length A.out.1,J y.length q.1,J x.L.length A.L.1,J x.ID.length A.ID.1,O x.IA,O x.aK,J x.Iz.length A.Iz.1,O x.owned]=[J x.ad.length A.ad.1,J x.out.length A.out.1,J x.IK.length A.IK.1,J x.L.length A.L.1,J x.ID.length A.ID.1,O x.IA,O x.aK,J x.Iz.length A.Iz.1,O x.owned];rw [e]
  exact⟨d,h1,ab,fun f l y q r Fy a b c A e B=>⟨_,(aq f l y q r Fy a b c A e B).1,(aq f l y q r Fy a b c A e B).2,bN.st rfl⟩⟩
theorem sY {xs:List ay} {p:ak ay} {F:ah} (o:af w0 M u N F xs p) {k:Nat} (hk:k<xs.length):
    ∃
      d:ah,af w0 M u N d (el xs k).Iz (p.2 k).Iz/\(∀b,d b->F b)/\∀(f:World) (l:ah) (y:List a6) (q:GT.Ptr (List a6)) (r Fy:ah),(∀b,N b->¬d b->l b/\f.heap[b]? =u.heap[b]?)->af w0 M f l r y q->(∀b,r b->d b\/Fy b)->U F Fy->GT.cells y q=GT.cells (el xs k).Iz (p.2 k).Iz->(∀b,d b->l b)->
      ∃t,af w0 M f l (Or F r) (xs.set k {el xs k with Iz:=y}) (p.1,t)/\(∀j,GT.cells (el (xs.set k {el xs k with Iz:=y}) j) (t j)=GT.cells (el xs j) (p.2 j))/\bN p.2 t:=by
  obtain⟨d,h1,ab,aq⟩:=o.JY hk (fun x=>x.Iz) (fun A=>A.Iz) (fun x y=>{x with Iz:=y}) (fun A q=>{A with Iz:=q}) fun B u x A h=>by
    obtain⟨B,C,D,G,H,I,K,L,P,Q,R,T,s,W,X,Y⟩:=h;refine⟨I,T,s.sub _ aM,fun f y q r Fy t w z ad hc=>⟨⟨B,C,D,G,H,r,GT.bh K fun b hb _=>ad b (s.sub _ aM b hb) fun B=>(bz s.IY (i:=0) (j:=5) (by decide) rfl rfl) b hb B,GT.bh L fun b hb _=>ad b (s.sub _ aM b hb) fun B=>(bz s.IY (i:=1) (j:=5) (by decide) rfl rfl) b hb B,GT.bh P fun b hb _=>ad b (s.sub _ aM b hb) fun B=>(bz s.IY (i:=2) (j:=5) (by decide) rfl rfl) b hb B,GT.bh Q fun b hb _=>ad b (s.sub _ aM b hb) fun B=>(bz s.IY (i:=3) (j:=5) (by decide) rfl rfl) b hb B,GT.bh R fun b hb _=>ad b (s.sub _ aM b hb) fun B=>(bz s.IY (i:=4) (j:=5) (by decide) rfl rfl) b hb B,t,gR s (i:=5) rfl w z,W,X,Y⟩,?_⟩⟩;have e:=(List.cons.inj hc).1;show [J x.ad.length A.ad.1,J x.out.length A.out.1,J x.IK.length A.IK.1,J x.L.length A.L.1,J x.ID.length A.ID.1,O x.IA,O x.aK,J y.length q.1,O x.owned]=[J x.ad.length A.ad.1,J x.out.length A.out.1,J x.IK.length A.IK.1,J x.L.length A.L.1,J x.ID.length A.ID.1,O x.IA,O x.aK,J x.Iz.length A.Iz.1,O x.owned];rw [e]
  exact⟨d,h1,ab,fun f l y q r Fy a b c A e B=>⟨_,(aq f l y q r Fy a b c A e B).1,(aq f l y q r Fy a b c A e B).2,bN.st rfl⟩⟩
end
def jL (F:ah) (uT:a1) (w:World) (r:aa) (e:Ending) (w':World):Prop:=
  ∃(q:a1) (e1:ah),e= .returned (GT.val r q)/\aW F w w'/\GT.own a2 e1 w' r q/\(∀b,e1 b->F b\/(w.heap.size<=b/\b<w'.heap.size))/\bN uT.H.2 q.H.2
def mh (F:ah) (uT:a1) (w:World) (r:aa) (k:Int) (c:Bool) (e:Ending) (w':World):Prop:=
  ∃(q:a1) (e1:ah),e= .returned (.tuple #[GT.val r q,O k,B c])/\aW F w w'/\GT.own a2 e1 w' r q/\au k/\(∀b,e1 b->F b\/(w.heap.size<=b/\b<w'.heap.size))/\bN uT.H.2 q.H.2
theorem jL.out {F:ah} {d:a1} {w f:World} {r:aa} {e:Ending} (h:jL F d w r e f):gy F F w r e f:=
  let⟨q,A,h1,ab,aq,bg,_⟩:=h;⟨q,A,h1,ab,aq,bg⟩
theorem mh.out {F:ah} {d:a1} {w f:World} {r:aa} {k:Int} {c:Bool} {e:Ending} (h:mh F d w r k c e f):vs F F w r k c e f:=
  let⟨q,A,h1,ab,aq,bg,B,_⟩:=h;⟨q,A,h1,ab,aq,bg,B⟩
section
variable {P:Program} {n:Nat} {w0:World} {M:ah} {u:World} {N:ah} {β:Nat->Nat} {σ:aX} {a:Act} {w:World} {ops:Array Oper} {Q:Exit->Act->World->Prop} {b1:Act->World->Prop}
theorem ag.KA {F:ah} {x:aa} {p:a1} (S:ag P n w0 M u N β σ a w) (o:af w0 M u N F x p) {i:Nat} {f:FuncId} {l:List Value} {d:Tmp} {r t:aa} (hY:t=r) (hc:Calls P f l.toArray w (jL F p w r))
    (K:∀y z A q B,ag P n w0 M z A β ⟨(d,.v (GT.val t q))::σ.env,σ.aN⟩ y z->(∀b,N b->¬F b->A b/\z.heap[b]? =u.heap[b]?)->af w0 M z A B t q->(∀C:ah,U C F->(∀b,C b->N b)->U C B)->bN p.H.2 (a1.H q).2->b1 y z)
    (hcall:ep P n ops i σ=some (f,l,d):=by kernel_rfl) (hd:Nat.blt d n=true:=by kernel_rfl):wpOp P ops Q i b1 a w:=by
  subst hY;exact S.call hcall hc fun _ z ⟨q,B,he,A,D,aF,aA⟩=>⟨_,he,K _ z _ q B ((S.JC A o.sub o.I1).put (j3 hd) (fun _ _ e=>by cases e)) (S.IL A)
    ⟨D,fun b h=>(aF b h).elim (fun h=> .inl (o.sub b h)) .inr,fun b h=>(aF b h).elim (o.I1 b) (fun h=> .inl (Nat.le_trans S.I7.size h.1))⟩
    (fun C A B b h1 ab=>(aF b ab).elim (A b h1) (fun h=>by have:=(S.sep b (B b h1)).1;omega)) aA⟩
theorem ag.KU {F:ah} {x:aa} {p:a1} (S:ag P n w0 M u N β σ a w) (o:af w0 M u N F x p) {i:Nat} {f:FuncId} {l:List Value} {d:Tmp} {r t:aa} {k:Int} {c:Bool} (hY:t=r) (hc:Calls P f l.toArray w (mh F p w r k c))
    (K:∀y z A q C,ag P n w0 M z A β ⟨(d,.v (.tuple #[GT.val t q,O k,B c]))::σ.env,σ.aN⟩ y z->(∀b,N b->¬F b->A b/\z.heap[b]? =u.heap[b]?)->af w0 M z A C t q->(∀D:ah,U D F->(∀b,D b->N b)->U D C)->au k->bN p.H.2 (a1.H q).2->b1 y z)
    (hcall:ep P n ops i σ=some (f,l,d):=by kernel_rfl) (hd:Nat.blt d n=true:=by kernel_rfl):wpOp P ops Q i b1 a w:=by
  subst hY;exact S.call hcall hc fun _ z ⟨q,C,he,A,G,hk,aF,aA⟩=>⟨_,he,K _ z _ q C ((S.JC A o.sub o.I1).put (j3 hd) (fun _ _ e=>by cases e)) (S.IL A)
    ⟨G,fun b h=>(aF b h).elim (fun h=> .inl (o.sub b h)) .inr,fun b h=>(aF b h).elim (o.I1 b) (fun h=> .inl (Nat.le_trans S.I7.size h.1))⟩
    (fun D A C b h1 ab=>(aF b ab).elim (A b h1) (fun h=>by have:=(S.sep b (C b h1)).1;omega)) hk aA⟩
theorem l4 {F d:ah} {r x:aa} {f p:a1} {v:Value} (S:ag P n w0 F u N β σ a w) (h:r=x) (l:v=GT.val x p) (o:af w0 F u N d x p) (aA:bN f.H.2 p.H.2):jL F f w0 r (.returned (packed [v])) w:=by
  obtain⟨A,B,h1,ab,aq,bg⟩:=hA S h l o;subst h l;exact⟨p,d,rfl,ab,S.I2 o,fun b hb=>(o.I1 b hb).elim (fun h=> .inr ⟨h,(S.sep b (o.sub b hb)).1⟩) .inl,aA⟩
theorem jA {F d:ah} {r x:aa} {k f:Int} {c l:Bool} {q p:a1} {v:Value} (S:ag P n w0 F u N β σ a w) (h:r=x) (hk:k=f) (t:c=l) (y:v=GT.val x p) (o:af w0 F u N d x p) (z:au f) (aA:bN q.H.2 p.H.2):mh F q w0 r k c (.returned (packed [v,O f,B l])) w:=by
  subst h hk t y;exact⟨p,d,rfl,S.I7,S.I2 o,z,fun b hb=>(o.I1 b hb).elim (fun h=> .inr ⟨h,(S.sep b (o.sub b hb)).1⟩) .inl,aA⟩
end
end Go.Proofs.YtkggcdhigchepaaGreat
namespace Go.Proofs.YtkggcdhigchepaaGreat
open Go
set_option linter.unusedVariables false
section
variable {P:Program} {n:Nat} {w0:World} {M:ah} {u:World} {N:ah} {β:Nat->Nat} {a:Act} {w:World} {Q:Exit->Act->World->Prop}
theorem ag.JU {l:bL} {F:ah} {x:aa} {p:a1} {f:FuncId} {t:List Value} {d:Tmp} {r y:aa} (S:ag P n w0 M u N β l.σ a w) (o:af w0 M u N F x p) (hY:y=r) (hc:Calls P f t.toArray w (jL F p w r)) (K:∀z A B q C,ag P n w0 M A B β (l.put d (GT.val y q)).σ z A->(∀b,N b->¬F b->B b/\A.heap[b]? =u.heap[b]?)->af w0 M A B C y q->(∀D:ah,U D F->(∀b,D b->N b)->U D C)->bN p.H.2 (a1.H q).2->bU P Q (l.put d (GT.val y q)) z A) (hcall:ep P n l.aQ.opsOf l.aQ.idx l.σ=some (f,t,d):=by kernel_rfl) (hd:Nat.blt d n=true:=by kernel_rfl) (A:l.aQ.Jk=true:=by kernel_rfl):bU P Q l a w:=
  ⟨lo (ag.KA S (o:=o) (hY:=hY) (hc:=hc) (hcall:=hcall) (hd:=hd) (K:=fun _ _ _ _ _ B h1 ab aq bg=>(K _ _ _ _ _ B h1 ab aq bg).ok)) A⟩
end
end Go.Proofs.YtkggcdhigchepaaGreat
namespace Go.Proofs.YtkggcdhigchepaaGreat
open Go
set_option linter.unusedVariables false
set_option linter.unusedSimpArgs false
theorem w8 {a:eo} (h:cH a):cY (fE a):=⟨cH.x (d:=a) h,cH.y (d:=a) h⟩
def c0 (p:aa×Bool):aa×bP:=(p.1,⟨p.2,0⟩)
def b3 (h:aa) (a:eo):aa×bP:=
  if a.aO=1 then c0 (ew h a.m a.g)
  else if a.aO=2 then c0 (fK h a.m a.g a.x ⟨a.y,a.z⟩)
  else if a.aO=3 then c0 (e6 h a.m a.g a.x)
  else if a.aO=4 then c0 (fF h a.m a.g a.x)
  else if a.aO=5 then c0 (fJ h a.m a.g)
  else if a.aO=6 then c0 (fG h a.m a.g a.x)
  else if a.aO=7 then c0 (e5 h a.m a.g (fE a))
  else if a.aO=8 then c0 (fH h a.m a.x a.y a.z)
  else if a.aO=9 then c0 (fI h a.m a.x)
  else if a.aO=10 then((dK h a.m).1,⟨(dK h a.m).2.2,(dK h a.m).2.1⟩)
  else if a.aO=11 then c0 (fV h a.m a.g a.x a.y)
  else if a.aO=12 then((ev h a.m a.g a.x).1,⟨(ev h a.m a.g a.x).2.2,(ev h a.m a.g a.x).2.1⟩)
  else if a.aO=13 then c0 (fM h a.m a.x)
  else if a.aO=14 then c0 (fL h a.m a.x)
  else if a.aO=15 then c0 (fw h a.m a.x)
  else if a.aO=16 then c0 (gK h a.m a.x)
  else if a.aO=17 then(gH h,⟨true,0⟩)
  else(h,⟨false,0⟩)
section
variable {h:aa} {a:eo}
theorem pL (e:a.aO=1):b3 h a=c0 (ew h a.m a.g):=by unfold b3;rw [e];rfl
theorem pP (e:a.aO=2):b3 h a=c0 (fK h a.m a.g a.x ⟨a.y,a.z⟩):=by unfold b3;rw [e];rfl
theorem pQ (e:a.aO=3):b3 h a=c0 (e6 h a.m a.g a.x):=by unfold b3;rw [e];rfl
theorem pR (e:a.aO=4):b3 h a=c0 (fF h a.m a.g a.x):=by unfold b3;rw [e];rfl
theorem pS (e:a.aO=5):b3 h a=c0 (fJ h a.m a.g):=by unfold b3;rw [e];rfl
theorem pT (e:a.aO=6):b3 h a=c0 (fG h a.m a.g a.x):=by unfold b3;rw [e];rfl
theorem pU (e:a.aO=7):b3 h a=c0 (e5 h a.m a.g (fE a)):=by unfold b3;rw [e];rfl
theorem pV (e:a.aO=8):b3 h a=c0 (fH h a.m a.x a.y a.z):=by unfold b3;rw [e];rfl
theorem pW (e:a.aO=9):b3 h a=c0 (fI h a.m a.x):=by unfold b3;rw [e];rfl
theorem pM (e:a.aO=10):b3 h a=((dK h a.m).1,⟨(dK h a.m).2.2,(dK h a.m).2.1⟩):=by unfold b3;rw [e];rfl
theorem pN (e:a.aO=11):b3 h a=c0 (fV h a.m a.g a.x a.y):=by unfold b3;rw [e];rfl
theorem pO (e:a.aO=12):b3 h a=((ev h a.m a.g a.x).1,⟨(ev h a.m a.g a.x).2.2,(ev h a.m a.g a.x).2.1⟩):=by unfold b3;rw [e];rfl
theorem s6 (e:a.aO=13):b3 h a=c0 (fM h a.m a.x):=by unfold b3;rw [e];rfl
theorem s7 (e:a.aO=14):b3 h a=c0 (fL h a.m a.x):=by unfold b3;rw [e];rfl
theorem s8 (e:a.aO=15):b3 h a=c0 (fw h a.m a.x):=by unfold b3;rw [e];rfl
theorem s9 (e:a.aO=16):b3 h a=c0 (gK h a.m a.x):=by unfold b3;rw [e];rfl
theorem s_ (e:a.aO=17):b3 h a=(gH h,⟨true,0⟩):=by unfold b3;rw [e];rfl
theorem pK (e:a.aO<1\/17<a.aO):b3 h a=(h,⟨false,0⟩):=by
  unfold b3;rw [if_neg V,if_neg V,if_neg V,if_neg V,if_neg V,if_neg V,if_neg V,if_neg V,if_neg V,if_neg V,if_neg V,if_neg V,if_neg V,if_neg V,if_neg V,if_neg V,if_neg V]
theorem EO (ab:jj a.aO=true):13<=a.aO/\a.aO<=17:=by
  have bg:=bj (show av a.aO 13 17=true from ab);omega
theorem EM (h1:kG a=true) (ab:jj a.aO=false):1<=a.aO/\a.aO<=12:=by
  have aq:=bj (show av a.aO 1 17=true from h1);have bg:=bC (show av a.aO 13 17=false from ab);omega
theorem EN (h1:kG a=false):a.aO<1\/17<a.aO:=by
  have aq:=bC (show av a.aO 1 17=false from h1);omega
end
theorem G9 {F:ah} {w:World} {q:a1} (h:aa) (a:eo) (aU:GT.rd a2 F w (b3 h a).1 q):al.ao (b3 h a).1<=8*al.ao h+9000000000000000:=by
  by_cases e:a.aO=1
  · rw [pL e] at aU ⊢;exact Nat.le_trans (Hj h a.m a.g aU) V
  by_cases d:a.aO=2
  · rw [pP d];have h1:=Hi h a.m a.g a.x ⟨a.y,a.z⟩;simp only [c0];omega
  by_cases A:a.aO=3
  · rw [pQ A];have h1:=Hc h a.m a.g a.x;simp only [c0];omega
  by_cases A:a.aO=4
  · rw [pR A];have h1:=G_ h a.m a.g a.x;simp only [c0];omega
  by_cases A:a.aO=5
  · rw [pS A];have h1:=Hh h a.m a.g;simp only [c0];omega
  by_cases A:a.aO=6
  · rw [pT A];have h1:=Hd h a.m a.g a.x;simp only [c0];omega
  by_cases A:a.aO=7
  · rw [pU A];have h1:=Ha h a.m a.g (fE a);simp only [c0];omega
  by_cases A:a.aO=8
  · rw [pV A];have h1:=He h a.m a.x a.y a.z;simp only [c0];omega
  by_cases A:a.aO=9
  · rw [pW A];have h1:=Hf h a.m a.x;simp only [c0];omega
  by_cases A:a.aO=10
  · rw [pM A];have h1:=G8 h a.m;simp only [c0];omega
  by_cases A:a.aO=11
  · rw [pN A];have h1:=Hb h a.m a.g a.x a.y;simp only [c0];omega
  by_cases A:a.aO=12
  · rw [pO A];have h1:=Hg h a.m a.g a.x;simp only [c0];omega
  by_cases A:a.aO=13
  · rw [s6 A];have h1:=Ho h a.m a.x;simp only [c0];omega
  by_cases A:a.aO=14
  · rw [s7 A];have h1:=Hn h a.m a.x;simp only [c0];omega
  by_cases A:a.aO=15
  · rw [s8 A];have h1:=G5 h a.m a.x;simp only [c0];omega
  by_cases A:a.aO=16
  · rw [s9 A];have h1:=Hu h a.m a.x;simp only [c0];omega
  by_cases A:a.aO=17
  · rw [s_ A];have h1:=GX h;simp only [c0];omega
  rw [pK V];simp only;omega
end Go.Proofs.YtkggcdhigchepaaGreat
namespace Go.Proofs.YtkggcdhigchepaaGreat
open Go
set_option linter.unusedVariables false
section
variable {P:Program} {n:Nat} {w0:World} {M:ah} {u:World} {N:ah} {β:Nat->Nat} {σ:aX} {a:Act} {w:World} {Q:Exit->Act->World->Prop}
theorem cP.IV {F:ah} {w:World} {d:a6} {p:cJ} (h:cP a2 F w d p):d.IN.length<=4194304/\d.IT.length<=4194304:=
  ⟨ae.le h.IN,ae.le h.IT⟩
theorem ax.IV {F:ah} {w:World} {d:ai} {p:bG} (h:ax a2 F w d p):d.prog.length<=4194304/\d.II.length<=4194304/\d.IF.length<=4194304/\d.IM.length<=4194304:=
  ⟨ae.le h.prog,ae.le h.II,ae.le h.IF,ae.le h.IM⟩
theorem az.IV {F:ah} {w:World} {d:ay} {p:cA} (h:az a2 F w d p):d.ad.length<=4194304/\d.out.length<=4194304/\d.IK.length<=4194304/\d.L.length<=4194304/\d.ID.length<=4194304/\d.Iz.length<=4194304:=
  ⟨ae.le h.ad,ae.le h.out,ae.le h.IK,ae.le h.L,ae.le h.ID,ae.le h.Iz⟩
theorem a4.IV {F:ah} {w:World} {d:aa} {p:a1} (h:a4 a2 F w d p):d.Iy.length<=4194304/\d.H.length<=4194304/\d.IB.length<=4194304/\d.IC.length<=4194304:=
  ⟨ae.le h.Iy,ae.le h.H,ae.le h.IB,ae.le h.IC⟩
theorem bI.IV {F:ah} {w:World} {d:aI} {p:bM} (h:bI a2 F w d p):d.Iy.length<=4194304/\d.L.length<=4194304/\d.ID.length<=4194304:=
  ⟨ae.le h.Iy,ae.le h.L,ae.le h.ID⟩
theorem ag.IS {α:Type} [GT α] {x:α} {p:GT.Ptr α} (S:ag P n w0 I u N β σ a w) (h:aE w0 x p):aE w x p:=S.rd (S.arg h)
theorem ag.IQ {r:bL} (S:ag P n w0 M u N β r.σ a w) (k:Nat) {claims:List (Ask×Value)} (d:cm P u N claims) (e:Bool)
    (f:∀l o β',e=false->ag P n w0 M u N β' ((r.go P n k (claims.map (·.2))).lit true).σ l o->bU P Q ((r.go P n k (claims.map (·.2))).lit true) l o)
    (aF:∀l o β',e=true->ag P n w0 M u N β' ((r.go P n k (claims.map (·.2))).lit false).σ l o->bU P Q ((r.go P n k (claims.map (·.2))).lit false) l o)
    (h:(r.go P n k (claims.map (·.2))).asks=claims.map (·.1):=by kernel_rfl) (q:(r.go P n k (claims.map (·.2))).Ka=some (!e):=by kernel_rfl):bU P Q r a w:=
  S.IW k d (!e) (fun l o β' h=>f l o β' (eC h)) (fun l o β' h=>aF l o β' (cM h)) h q
section
variable {N0:ah} {u0:World} {jK:ah} {w':World} {F:ah} {X:Nat->Prop}
theorem uz (h:∀b,N0 b->N b/\u.heap[b]? =u0.heap[b]?) (d:∀b,N b->jK b/\w'.heap[b]? =u.heap[b]?):∀b,N0 b->jK b/\w'.heap[b]? =u0.heap[b]? :=
  fun b k=>⟨(d b (h b k).1).1,(d b (h b k).1).2.trans (h b k).2⟩
end
end
end Go.Proofs.YtkggcdhigchepaaGreat
namespace Go.Proofs.YtkggcdhigchepaaGreat
open Go
set_option linter.unusedVariables false
inductive iI where
  |call (f:FuncId) (AG:List Value)
  |gg (cs:List Value) (k:Nat)
  |app (x y:Value) (wd by':Nat)
  |st (t:TypeId) (a v:Value)
inductive g5 where
  |call (d:Tmp)
  |gg (d:Tmp)
  |app (d:Tmp)
  |st
def g5.at (P:Program) (n:Nat) (ops:Array Oper) (i:Nat) (σ:aX):g5->Option iI
  | .call d=>(ep P n ops i σ).bind fun z=>bif Nat.beq z.2.2 d then some (.call z.1 z.2.1) else none
  | .gg d=>(kq P n ops i σ).bind fun z=>bif Nat.beq z.2.2 d then some (.gg z.1 z.2.1) else none
  | .app d=>(iJ P n ops i σ).bind fun z=>bif Nat.beq z.2.2.2.2 d then some (.app z.1 z.2.1 z.2.2.1 z.2.2.2.1) else none
  | .st=>(h3 ops i σ).map fun z=> .st z.1 z.2.1 z.2.2
def g5.Ju (v:Value) (σ:aX):g5->aX
  | .call d| .gg d| .app d=>⟨(d,.v v)::σ.env,σ.aN⟩
  | .st=>σ
structure dq (w0:World) (M:ah) where
  key:Nat
  Y:Type
  K_:Y
  val:Y->Value
  A:Y->World->ah->ah->Prop
  Kc:∀{y:Y} {u:World} {N F:ah} {ny:World} {jK:ah},A y u N F->(∀b,F b->jK b/\ny.heap[b]? =u.heap[b]?)->A y ny jK F
  sub:∀{y:Y} {u:World} {N F:ah},A y u N F->∀b,F b->N b
section
variable {w0:World} {M:ah}
def ck:List (dq w0 M)->Type
  |[]=>Unit
  |e::r=>e.Y×ck r
def ck.J8:(rs:List (dq w0 M))->ck rs
  |[]=>()
  |e::r=>(e.K_,ck.J8 r)
def dg:(rs:List (dq w0 M))->ck rs->Nat->World->ah->ah->Prop
  |[],_,_,_,_,_=>False
  |e::r,x,k,u,N,F=>bif Nat.beq e.key k then e.A x.1 u N F else dg r x.2 k u N F
def ef:(rs:List (dq w0 M))->ck rs->Nat->Value
  |[],_,_=>undef
  |e::r,x,k=>bif Nat.beq e.key k then e.val x.1 else ef r x.2 k
def Has:List (dq w0 M)->Nat->dq w0 M->Prop
  |[],_,_=>False
  |e::r,k,z=>(e.key=k/\z=e)\/(e.key≠k/\Has r k z)
theorem vy {a b:Nat} (h:a=b):Nat.beq a b=true:=by subst h;exact Nat.beq_refl a
theorem r_ {a b:Nat} (h:a≠b):Nat.beq a b=false:=by
  cases hb:Nat.beq a b with
  |false=>rfl
  |true=>exact absurd (Nat.eq_of_beq_eq_true hb) h
theorem dg.Kc {u:World} {N F:ah} {d:World} {f:ah}:∀{rs:List (dq w0 M)} {x:ck rs} {k:Nat},dg rs x k u N F->(∀b,F b->f b/\d.heap[b]? =u.heap[b]?)->dg rs x k d f F
  |
    [],_,_,h,_=>h
  |e::r,x,k,h,g=>by
    unfold dg at h ⊢;cases hb:Nat.beq e.key k
    · rw [hb] at h;exact dg.Kc (rs:=r) h g
    · rw [hb] at h;exact e.Kc h g
theorem dg.sub {u:World} {N F:ah}:∀{rs:List (dq w0 M)} {x:ck rs} {k:Nat},dg rs x k u N F->∀b,F b->N b
  |
    [],_,_,h=>False.elim h
  |e::r,x,k,h=>by
    unfold dg at h;cases hb:Nat.beq e.key k
    · rw [hb] at h;exact dg.sub (rs:=r) h
    · rw [hb] at h;exact e.sub h
theorem Has.KN:∀{rs:List (dq w0 M)} {k:Nat} {d:dq w0 M},Has rs k d->∀(x:ck rs) (y:d.Y),∃f:ck rs,dg rs f k=d.A y/\ef rs f k=d.val y/\∀j,j≠k->dg rs f j=dg rs x j/\ef rs f j=ef rs x j
  |
    [],_,_,h,_,_=>False.elim h
  |e::r,k,d,.inl ⟨h1,ab⟩,x,y=>by
    subst ab;refine⟨(y,x.2),?_,?_,fun j l=>?_⟩
    · funext u N F;simp only [dg,vy h1,cond_true]
    · simp only [ef,vy h1,cond_true]
    · have hb:Nat.beq d.key j=false:=r_ fun e=>l (by rw [←e,h1]);exact⟨by funext u N F;simp only [dg,hb,cond_false],by simp only [ef,hb,cond_false]⟩
  |e::r,k,d,.inr ⟨h1,ab⟩,x,y=>by
    obtain⟨f,A,B,C⟩:=Has.KN ab x.2 y;refine⟨(x.1,f),?_,?_,fun j l=>⟨?_,?_⟩⟩
    · funext u N F;simp only [dg,r_ h1,cond_false];rw [A]
    · simp only [ef,r_ h1,cond_false];exact B
    · funext u N F;cases hb:Nat.beq e.key j
      · simp only [dg,hb,cond_false];rw [(C j l).1]
      · simp only [dg,hb,cond_true]
    · cases hb:Nat.beq e.key j
      · simp only [ef,hb,cond_false];exact(C j l).2
      · simp only [ef,hb,cond_true]
end
structure fC (X:Type) where
  key:Nat
  nd:List Nat
  us:List Nat
  fX:g5
  ask:X->iI
def kd {X:Type}:List (fC X)->Nat->Option (fC X)
  |[],_=>none
  |z::r,i=>bif Nat.beq z.key i then some z else kd r i
theorem rX {d:Type} {f:fC d}:∀{tb:List (fC d)} {i:Nat},kd tb i=some f->f∈tb/\f.key=i
  |
    [],_,h=>by cases h
  |y::r,i,h=>by
    unfold kd at h;cases hb:Nat.beq y.key i
    · rw [hb] at h;exact⟨List.mem_cons_of_mem _ (rX h).1,(rX h).2⟩
    · rw [hb] at h;simp only [cond_true,Option.some.injEq] at h;subst h;exact⟨List.mem_cons_self,Nat.eq_of_beq_eq_true hb⟩
def lp:List (Nat×Bool×Bool)->List (Nat×Bool)
  |[]=>[]
  |(i,_,b)::r=>(i,b)::lp r
def qZ:List (Nat×Bool×Bool)->Nat->List (Bool×Bool)
  |[],_=>[]
  |(j,c)::r,i=>bif Nat.beq j i then [c] else qZ r i
def gd:List (Nat×Bool×Bool)->Prop
  |[]=>True
  |(_,c,b)::r=>c=b/\gd r
theorem gd.nil:gd []:=trivial
theorem gd.cons (i:Nat) {c b:Bool} {l:List (Nat×Bool×Bool)} (h:c=b) (t:gd l):gd ((i,c,b)::l):=⟨h,t⟩
theorem gd.at :∀{l:List (Nat×Bool×Bool)} {i:Nat},gd l->fc (qZ l i)
  |
    [],_,_=>trivial
  |(j,c)::r,i,h=>by
    unfold qZ;cases Nat.beq j i
    · exact gd.at h.2
    · exact⟨h.1,trivial⟩
def hI (m:Nat):Nat->Nat->aX->aX
  |0,_,σ=>σ
  |c+1,k,σ=>bif Nat.blt k σ.aN.length&&Nat.blt m k then hI m c (k-1) (σ.JE (k-1) k) else σ
structure c8 where
  ops:Array Oper
  fX:Nat->Option g5
  gi:Nat->List (Ask×Value)
  ov:List (Nat×Bool)
def c8.JS (D:c8) (P:Program) (n:Nat) (eT:Nat->Value) (i:Nat) (σ:aX):Option (aX×List (Ask×Value)×List (Bool×Bool)×Option iI):=
  match D.fX i with
  |some k=>(k.at P n D.ops i σ).map fun q=>(k.Ju (eT i) σ,[],[],some q)
  |none=>(kF P n D.ops i σ ((D.gi i).map (·.2))).map fun r=>((gq D.ov i (ia D.ops i) r.1).1,r.2,(gq D.ov i (ia D.ops i) r.1).2,none)
def c8.cs (D:c8) (P:Program) (n:Nat) (eT:Nat->Value) (l:Array Bool):List Nat->aX->Option aX
  |
    [],σ=>some σ
  |i::is,σ=>bif l.getD i false then
      match D.JS P n eT i σ with
      |some r=>D.cs P n eT l is r.1
      |none=>none
    else D.cs P n eT l is σ
def aX.Jb (σ:aX) (keys:List Nat):aX:=⟨σ.keep 1000 keys,σ.aN.take 1000⟩
theorem c8.K6 {D:c8} {P:Program} {n:Nat} {d f:Nat->Value} {i:Nat} {σ:aX} (h:f i=d i):D.JS P n f i σ=D.JS P n d i σ:=by
  unfold c8.JS;rw [h]
theorem c8.Km {D:c8} {P:Program} {n:Nat} {d f:Nat->Value} {l:Array Bool} (h:∀j,l.getD j false=true->f j=d j):∀(o:List Nat) (σ:aX),D.cs P n f l o σ=D.cs P n d l o σ
  |
    [],_=>rfl
  |i::o,σ=>by
    unfold c8.cs;cases hl:l.getD i false
    · exact c8.Km h o σ
    · simp only [cond_true];rw [c8.K6 (h i hl)];split
      · exact c8.Km h o _
      · rfl
def jO:List Bool->List Bool->Bool
  |[],[]=>true
  |a::l,b::r=>bif a then b&&jO l r else !b&&jO l r
  |_,_=>false
theorem pr:∀{l r:List Bool},jO l r=true->l=r
  |
    [],[],_=>rfl
  |[],_::_,h=>by cases h
  |_::_,[],h=>by cases h
  |a::l,b::r,h=>by
    unfold jO at h;cases a<;>cases b<;>first|cases h|rw [pr (l:=l) (r:=r) h]
def mQ (l:Array Bool):List (Array Bool)->Bool
  |[]=>false
  |x::r=>jO l.toList x.toList||mQ l r
theorem xR {l:Array Bool}:∀{d:List (Array Bool)},mQ l d=true->l∈d
  |
    [],h=>by cases h
  |x::r,h=>by
    unfold mQ at h;rw [Bool.or_eq_true] at h;rcases h with h|h
    · have:l=x:=Array.ext' (pr h);subst this;exact List.mem_cons_self
    · exact List.mem_cons_of_mem _ (xR h)
def nD (l:Array Bool) (L:List (Array Bool)):List (Array Bool):=bif mQ l L then L else l::L
theorem AZ {l:Array Bool} {d:List (Array Bool)}:l∈nD l d:=by
  unfold nD;cases h:mQ l d
  · exact List.mem_cons_self
  · exact xR h
theorem AY {l x:Array Bool} {d:List (Array Bool)} (h:x∈d):x∈nD l d:=by
  unfold nD;cases mQ l d
  · exact List.mem_cons_of_mem _ h
  · exact h
def lN (ops:Array Oper):List (Array Bool)->List (Array Bool×Nat)
  |[]=>[]
  |l::r=>(Region.ready .any ops l).map (fun i=>(l,i))++lN ops r
def nk:List (Array Bool×Nat)->List (Array Bool)
  |[]=>[]
  |(l,i)::r=>nD (l.setIfInBounds i true) (nk r)
theorem w_ {ops:Array Oper} {l:Array Bool} {i:Nat} (hi:i∈Region.ready .any ops l):∀{d:List (Array Bool)},l∈d->(l,i)∈lN ops d
  |
    x::r,h=>by
    unfold lN;rcases List.mem_cons.1 h with e|e
    · subst e;exact List.mem_append_left _ (List.mem_map_of_mem hi)
    · exact List.mem_append_right _ (w_ hi e)
theorem zu {l:Array Bool} {i:Nat}:∀{d:List (Array Bool×Nat)},(l,i)∈d->l.setIfInBounds i true∈nk d
  |
    (l',A)::r,h=>by
    unfold nk;rcases List.mem_cons.1 h with e|e
    · cases e;exact AZ
    · exact AY (zu e)
def po (ops:Array Oper) (full:Array Bool) (z:Nat):Nat->List (Array Bool)->Bool
  |0,L=>L.all fun l=>jO l.toList full.toList
  |f+1,L=>(L.all fun l=>!(Region.ready .any ops l).isEmpty&& !eY (Region.ready .any ops l) z)&&po ops full z f (nk (lN ops L))
def dY (n z:Nat):Array Bool:=((List.range n).map fun i=>Nat.blt i z).toArray
def mB:List Nat->List Nat->Bool
  |[],[]=>true
  |a::l,b::r=>Nat.beq a b&&mB l r
  |_,_=>false
theorem xg:∀{l r:List Nat},mB l r=true->l=r
  |
    [],[],_=>rfl
  |[],_::_,h=>by cases h
  |_::_,[],h=>by cases h
  |a::l,b::r,h=>by
    unfold mB at h;rw [Bool.and_eq_true] at h;rw [Nat.eq_of_beq_eq_true h.1,xg h.2]
def mj (ops:Array Oper):Nat->List (Array Bool)->List (Array Bool×Nat)
  |0,_=>[]
  |f+1,L=>lN ops L++mj ops f (nk (lN ops L))
def nf:List (Nat×Ask×Value)->List Nat
  |[]=>[]
  |(i,_)::r=>i::nf r
def fY {X:Type} (pk:List Nat) (tb:List (fC X)) (l:Array Bool) (j:Nat):Bool:=
  (eY pk j||(l.getD j false&&(kd tb j).isSome))&&tb.all fun z=>!eY z.us j|| !l.getD z.key false
def uB {X:Type} (pk:List Nat) (tb:List (fC X)) (cl0:List Nat) (st:Nat) (e:Array Bool×Nat):Bool:=
  match kd tb e.2 with
  |some z=>(z.nd.all (fY pk tb e.1))&&(z.us.all (fY pk tb e.1))&&((z.us.all fun j=>!eY pk j)||(e.1.setIfInBounds e.2 true).getD st false)&& !eY pk e.2
  |none=>(!e.1.getD st false|| !eY cl0 e.2)&& !eY pk e.2
section
variable {P:Program} {n:Nat} {w0:World} {M:ah}
abbrev vm (rs:List (dq w0 M)) (x:ck rs) (u:World) (N:ah) (FF:Nat->ah) (nd us:List Nat):Prop:=
  (∀j,j∈nd\/j∈us->dg rs x j u N (FF j))/\∀i j,i∈nd\/i∈us->j∈nd\/j∈us->i≠j->U (FF i) (FF j)
structure ft (P:Program) (n:Nat) (w0:World) (M:ah) (ops:Array Oper) (u0:World) (N1:ah) (rs:List (dq w0 M)) (e:dq w0 M) (nd us:List Nat) (fX:g5) (ask:ck rs->iI):Prop where
  ok:∀{x:ck rs} {u:World} {N:ah} {β:Nat->Nat} {σ:aX} {a:Act} {w:World} {FF:Nat->ah} {Q:Exit->Act->World->Prop} {b1:Act->World->Prop},ag P n w0 M u N β σ a w->d_ N1 u0 N u->vm rs x u N FF nd us->fX.at P n ops e.key σ=some (ask x)->
    (∀kk w' ny jK y e1,ag P n w0 M ny jK β (fX.Ju (e.val y) σ) kk w'->(∀b,N b->(∀j,j∈us->¬FF j b)->jK b/\ny.heap[b]? =u.heap[b]?)->e.A y ny jK e1->(∀G:ah,(∀j,j∈us->U G (FF j))->(∀b,G b->N b)->U G e1)->b1 kk w')->wpOp P ops Q e.key b1 a w
variable (P n)
def c8.lhs (D:c8) (eT:Nat->Value) (st m:Nat) (todo keys:List Nat) (σ0:aX) (e:Array Bool×Nat):Option (aX×List (Ask×Value)×List (Bool×Bool)×Option iI×List (List Value)×Bool):=
  (D.cs P n eT e.1 todo σ0).bind fun σ=>(D.JS P n eT e.2 (σ.Jb keys)).map fun r=>
    ((hI m (bif Nat.blt (σ.Jb keys).aN.length r.1.aN.length then((D.cs P n eT e.1 (todo.filter (Nat.blt · e.2)) σ0).map fun z=>r.1.aN.length-1-z.aN.length).getD 0 else 0) (r.1.aN.length-1) r.1).Jb keys,r.2.1,r.2.2.1,r.2.2.2,
      bif (e.1.setIfInBounds e.2 true).getD st false then [] else r.1.aN.take m,Nat.ble m (r.1.Jb keys).aN.length)
def c8.rhs (D:c8) (eT:Nat->Value) (st m:Nat) (todo keys:List Nat) (σ0:aX) (bx0:List (List Value)) (ob:List (Nat×Bool×Bool)) (q:Nat->Option iI) (e:Array Bool×Nat):Option (aX×List (Ask×Value)×List (Bool×Bool)×Option iI×List (List Value)×Bool):=
  (D.cs P n eT (e.1.setIfInBounds e.2 true) todo σ0).map fun σ=>(σ.Jb keys,match q e.2 with|some _=>[]|none=>(D.gi e.2),match q e.2 with|some _=>[]|none=>qZ ob e.2,q e.2,bif (e.1.setIfInBounds e.2 true).getD st false then [] else bx0,true)
variable {P n}
theorem ag.hI {u:World} {N:ah} {a:Act} {w:World} {m:Nat} {β0:Nat->Nat}:∀(c k:Nat) (σ:aX) (d:Nat->Nat),ag P n w0 M u N d σ a w->en m β0 d->∃β',ag P n w0 M u N β' (Go.Proofs.YtkggcdhigchepaaGreat.hI m c k σ) a w/\en m β0 β'
  |
    0,_,_,d,S,hb=>⟨d,S,hb⟩
  |c+1,k,σ,d,S,hb=>by
    unfold Go.Proofs.YtkggcdhigchepaaGreat.hI;cases h:(Nat.blt k σ.aN.length&&Nat.blt m k)
    · exact⟨d,S,hb⟩
    · simp only [cond_true];rw [Bool.and_eq_true] at h;have h1:k<σ.aN.length:=by simpa [Nat.blt_eq] using h.1
      have ab:m<k:=by simpa [Nat.blt_eq] using h.2
      exact ag.hI c (k-1) _ _ (S.JE (k-1) k (by simp only [Nat.blt_eq];omega) h.1) (hb.J6 (k-1) k (Nat.ble_eq_true_of_le V) (Nat.ble_eq_true_of_le V))
theorem dn.up {u d:World} {N l:ah} {q:Ask} {v:Value} (h:dn P u N q v) (o:d_ N u l d):dn P d l q v:=by
  cases q with
  |call f args=>exact fun A B=>h A fun b hb=>⟨(B b (o b hb).1).1,(B b (o b hb).1).2.trans (o b hb).2⟩
  |_=>exact fun A B=>h A fun b hb=>(B b (o b hb).1).trans (o b hb).2
theorem cm.up {u d:World} {N f:ah}:∀{l:List (Ask×Value)},cm P u N l->d_ N u f d->cm P d f l
  |[],_,_=>trivial
  |_::_,h,up=>⟨dn.up h.1 up,cm.up h.2 up⟩
theorem zB {i:Nat}:∀{d f:List (Nat×Ask×Value)},eY (nf d) i=false->hz (d++f) i=hz f i
  |
    [],_,_=>rfl
  |(j,c)::r,f,h=>by
    unfold nf at h;unfold eY at h;cases hb:Nat.beq j i
    · rw [hb] at h;show hz ((j,c)::(r++f)) i=_;rw [hz,hb];exact zB h
    · rw [hb] at h;cases h
theorem fe.app {u:World} {N:ah}:∀{d f:List (Nat×Ask×Value)},fe P u N d->fe P u N f->fe P u N (d++f)
  |[],_,_,h=>h
  |_::_,_,h,k=>⟨h.1,fe.app h.2 k⟩
section
variable (P n) (ops:Array Oper) (rs:List (dq w0 M)) (tb:List (fC (ck rs))) (pk:List Nat) (cl0 cl1:List (Nat×Ask×Value)) (ob:List (Nat×Bool×Bool)) (st m:Nat) (todo keys:List Nat) (σ0:aX) (bx0:List (List Value)) (u0:World) (N0 N1:ah) (β0:Nat->Nat)
abbrev c2:c8:=⟨ops,fun i=>(kd tb i).map (·.fX),hz (cl0++cl1),lp ob⟩
structure me (l:Array Bool) (x:ck rs) (u:World) (N:ah) (β:Nat->Nat) (FF:Nat->ah) (σ:aX) (a:Act) (w:World):Prop where
  cs:(c2 ops rs tb cl0 cl1 ob).cs P n (ef rs x) l todo σ0=some σ
  S:ag P n w0 M u N β (σ.Jb keys) a w
  up:d_ N1 u0 N u
  J7:l.getD st false=false->d_ N0 u0 N u
  Kj:en m β0 β
  le:m<=(σ.Jb keys).aN.length
  aN:l.getD st false=false->(σ.Jb keys).aN.take m=bx0
  res:∀j,fY pk tb l j=true->dg rs x j u N (FF j)/\U N1 (FF j)/\(l.getD st false=false->eY pk j=false->U N0 (FF j))
  IY:∀i j,fY pk tb l i=true->fY pk tb l j=true->i≠j->U (FF i) (FF j)
  nl:tb=[]->u=u0/\N=N0
end
theorem sb {m:Nat}:∀(c k:Nat) (σ:aX),(hI m c k σ).aN.length=σ.aN.length
  |
    0,_,_=>rfl
  |c+1,k,σ=>by
    unfold hI;cases (Nat.blt k σ.aN.length&&Nat.blt m k)
    · rfl
    · simp only [cond_true];rw [sb c];simp [aX.JE]
theorem sc {m:Nat}:∀(c k:Nat) (σ:aX),(hI m c k σ).aN.take m=σ.aN.take m
  |
    0,_,_=>rfl
  |c+1,k,σ=>by
    unfold hI;cases h:(Nat.blt k σ.aN.length&&Nat.blt m k)
    · rfl
    · simp only [cond_true];rw [sc c];rw [Bool.and_eq_true] at h;have h1:k<σ.aN.length:=by simpa [Nat.blt_eq] using h.1
      have ab:m<k:=by simpa [Nat.blt_eq] using h.2
      refine List.ext_getElem? fun j=>?_;rw [List.getElem?_take,List.getElem?_take];split
      · have d:hC (k-1) k j=j:=by rw [rP,if_neg V,if_neg V]
        have f:j<σ.aN.length:=by omega
        simp only [aX.JE,List.getElem?_map,List.getElem?_range f,Option.map_some,d,List.getD_eq_getElem?_getD,List.getElem?_eq_getElem f,Option.getD_some]
      · rfl
theorem l_ {ops:Array Oper} {l:Array Bool} {i:Nat} (aU:i∈Region.ready .any ops l):l.getD i false=false:=by
  have d:=(mem_ready.1 aU).1;rcases Nat.lt_or_ge i l.size with f|f
  · simp [f] at d ⊢;exact d
  · simp [Array.getElem?_eq_none f]
theorem l6 {l:Array Bool} {i j:Nat} (h:(l.setIfInBounds i true).getD j false=false):l.getD j false=false:=by
  cases hl:l.getD j false with
  |false=>rfl
  |true=>rw [getD_set_true hl] at h;cases h
variable {ops:Array Oper} {rs:List (dq w0 M)} {tb:List (fC (ck rs))} {pk:List Nat} {cl0 cl1:List (Nat×Ask×Value)} {ob:List (Nat×Bool×Bool)} {st m:Nat} {todo keys:List Nat} {σ0:aX} {bx0:List (List Value)} {u0:World} {N0 N1:ah} {β0:Nat->Nat}
theorem qO {l:Array Bool} {i j:Nat} (d:j≠i) (h:fY pk tb (l.setIfInBounds i true) j=true):fY pk tb l j=true:=by
  unfold fY at h ⊢;rw [Bool.and_eq_true,List.all_eq_true] at h ⊢;refine⟨?_,fun f o=>?_⟩
  · rw [getD_set_ne false (Ne.symm d)] at h;exact h.1
  · have ab:=h.2 f o;rw [Bool.or_eq_true] at ab ⊢;refine ab.imp id fun aq=>?_;simp only [Bool.not_eq_true'] at aq ⊢;exact l6 aq
theorem Fq {l:Array Bool} {d:fC (ck rs)} {j:Nat} (f:d∈tb) (hl:(l.setIfInBounds d.key true).getD d.key false=true) (h:fY pk tb (l.setIfInBounds d.key true) j=true):j ∉ d.us:=fun o=>by
  unfold fY at h;rw [Bool.and_eq_true,List.all_eq_true] at h;have ab:=h.2 d f;rw [hl,Bool.or_eq_true] at ab;rcases ab with ab|ab
  · have:eY d.us j=true:=by
      clear h ab hl f;generalize d.us=L at o
      induction L with
      |nil=>cases o
      |cons y r A=>
        unfold eY;cases hb:Nat.beq y j
        · rcases List.mem_cons.1 o with e|e
          · rw [e,Nat.beq_refl] at hb;cases hb
          · exact A e
        · rfl
    rw [this] at ab;cases ab
  · cases ab
theorem GJ {ops:Array Oper} {l:Array Bool} {i:Nat} (aU:i∈Region.ready .any ops l):(l.setIfInBounds i true).getD i false=true:=by
  have d:=(mem_ready.1 aU).1;rcases Nat.lt_or_ge i l.size with f|f
  · simp [f]
  · simp [Array.getElem?_eq_none f] at d
theorem me.next {R:Act->World->Prop} {f:Nat} {l:Array Bool} {x:ck rs} {u:World} {N:ah} {o:Nat->Nat} {FF:Nat->ah} {σ:aX} {a:Act} {w:World} (hm:m=bx0.length) (O:me P n ops rs tb pk cl0 cl1 ob st m todo keys σ0 bx0 u0 N0 N1 β0 l x u N o FF σ a w)
    (h:a_ P ops R st (cn w0 M u0 N0 β0 bx0) f l a w):(l.getD st false=false->cn w0 M u0 N0 β0 bx0 w)/\a_ P ops R st (cn w0 M u0 N0 β0 bx0) f l a w:=by
  cases d:l.getD st false with
  |true=>exact⟨fun q=>(by cases q),h⟩
  |false=>
    subst hm;have h1:=a_.Kr (f:=f) (l:=l) (P:=P) (ops:=ops) (R:=R) (st:=st) O.S (O.J7 d) O.Kj (O.aN d) fun _=>h;exact⟨fun _=>h1.1 d,h⟩
theorem w9 {R:Act->World->Prop} {full:Array Bool} {zz g:Nat} (hm:m=bx0.length) (aO:∀o∈tb,∃e,e.key=o.key/\Has rs o.key e/\ft P n w0 M ops u0 N1 rs e o.nd o.us o.fX o.ask)
    (aP:fe P u0 N0 cl0) (af:fe P u0 N1 cl1) (aQ:∀b,N1 b->N0 b) (aS:gd ob)
    (aT:∀x u N K FF σ a w,me P n ops rs tb pk cl0 cl1 ob st m todo keys σ0 bx0 u0 N0 N1 β0 full x u N K FF σ a w->a_ P ops R st (cn w0 M u0 N0 β0 bx0) g full a w):
    ∀(f:Nat) (F:List (Array Bool)),po ops full zz f F=true->(∀e∈mj ops f F,uB pk tb (nf cl0) st e=true/\∀x:ck rs,(c2 ops rs tb cl0 cl1 ob).lhs P n (ef rs x) st m todo keys σ0 e=(c2 ops rs tb cl0 cl1 ob).rhs P n (ef rs x) st m todo keys σ0 bx0 ob (fun i=>(kd tb i).map (·.ask x)) e/\((c2 ops rs tb cl0 cl1 ob).lhs P n (ef rs x) st m todo keys σ0 e).isSome=true)->
    ∀l∈F,∀x u N K FF σ a w,me P n ops rs tb pk cl0 cl1 ob st m todo keys σ0 bx0 u0 N0 N1 β0 l x u N K FF σ a w->a_ P ops R st (cn w0 M u0 N0 β0 bx0) (f+g) l a w
  |
    0,F,G,_,l,hl,x,u,N,K,FF,σ,a,w,O=>by
    have h:=List.all_eq_true.1 G l hl;have e:l=full:=Array.ext' (pr h);subst e;rw [Nat.zero_add];exact aT _ _ _ _ _ _ _ _ O
  |f+1,F,G,Y,l,hl,x,u,N,K,FF,σ,a,w,O=>by
    unfold po at G;rw [Bool.and_eq_true] at G;rw [Nat.add_right_comm];refine⟨fun bp=>?_,fun i L=>?_⟩
    · have h:=List.all_eq_true.1 G.1 l hl;rw [bp] at h;cases h
    have aW:=w_ L hl;obtain⟨t,hx⟩:=Y (l,i) (List.mem_append_left _ aW);have a1:=w9 hm aO aP af aQ aS aT f (nk (lN ops F)) G.2 (fun e he=>Y e (List.mem_append_right _ he)) (l.setIfInBounds i true) (zu aW);have bq:=l_ L;have br:=GJ L;unfold uB at t;simp only at t;cases H:kd tb i with
    |none=>
      rw [H] at t;simp only [Bool.and_eq_true,Bool.or_eq_true,Bool.not_eq_true'] at t;obtain⟨t,a2⟩:=t;obtain⟨h1,ab⟩:=hx x;simp only [c8.lhs,c8.rhs,O.cs,Option.bind_some,c8.JS,c2,H,Option.map_none] at h1 ab;cases aj:kF P n ops i (σ.Jb keys) ((hz (cl0++cl1) i).map (·.2)) with
      |none=>rw [aj] at ab;cases ab
      |some r=>
        rw [aj] at h1;simp only [Option.map_some] at h1;cases y:(c2 ops rs tb cl0 cl1 ob).cs P n (ef rs x) (l.setIfInBounds i true) todo σ0 with
        |none=>simp only [c2] at y;rw [y] at h1;cases h1
        |some z=>
          have Q:=y;simp only [c2] at Q;rw [Q] at h1;simp only [Option.map_some,Option.some.injEq,Prod.mk.injEq] at h1;obtain⟨A,ak,al,_,B,C⟩:=h1;obtain⟨b1,bu,he⟩:=sS aj;have aU:r=(r.1,hz (cl0++cl1) i):=by rw [←ak]
          rw [aU] at he;have ad:cm P u N (hz (cl0++cl1) i):=by
            cases a3:l.getD st false with
            |false=>exact cm.up (q1 (fe.app aP (cm.up af fun b hb=>⟨aQ b hb,rfl⟩))) (O.J7 a3)
            |true=>
              rw [zB (t.resolve_left (by rw [a3];simp))];exact cm.up (q1 af) O.up
          refine px bu he ad O.S fun bv aD bx bz hb=>?_;have am:∀j,fY pk tb (l.setIfInBounds i true) j=true->j≠i:=fun j d e=>by
            subst e;unfold fY at d;rw [H,a2] at d;simp at d
          have bA:=bz.gq (ov:=lp ob) (i:=i) (d:=ia ops i) (by rw [al];exact aS.at);have bB:en m β0 bx:=fun k hk=>(hb k (Nat.lt_of_lt_of_le hk O.le)).trans (O.Kj k hk);obtain⟨ao,ap,ar⟩:=ag.hI (m:=m) _ _ _ _ bA bB;have T:=ap.J1 1000 keys;rw [show(⟨_,_⟩:aX)=z.Jb keys from A] at T;have W:me P n ops rs tb pk cl0 cl1 ob st m todo keys σ0 bx0 u0 N0 N1 β0 (l.setIfInBounds i true) x u N ao FF z bv aD:=by
            refine⟨y,T,O.up,fun h=>O.J7 (l6 h),ar,?_,fun h=>?_,fun j d=>?_,fun j k d hk=>?_,O.nl⟩
            · rw [←A];have:=Nat.le_of_ble_eq_true C;simp only [aX.Jb,List.length_take,sb] at this ⊢;exact this
            · rw [h] at B;simp only [cond_false] at B;rw [←A];have bC:=Nat.le_of_ble_eq_true C;simp only [aX.Jb,List.length_take] at bC;simp only [aX.Jb,List.take_take];rw [Nat.min_eq_left V,sc];exact B
            · obtain⟨au,ax,az⟩:=O.res j (qO (am j d) d);exact⟨au,ax,fun h aY=>az (l6 h) aY⟩
            · exact O.IY j k (qO (am j d) d) (qO (am k hk) hk)
          exact W.next hm (a1 _ _ _ _ _ _ _ _ W)
    |some o=>
      rw [H] at t;simp only [Bool.and_eq_true,Bool.not_eq_true'] at t;obtain⟨⟨⟨bE,bF⟩,a4⟩,a2⟩:=t;obtain⟨aB,bG⟩:=rX H;subst bG;obtain⟨e,a5,bH,bI⟩:=aO o aB;have I:∀j,j∈o.nd\/j∈o.us->fY pk tb l j=true:=fun j d=>d.elim (List.all_eq_true.1 bE j) (List.all_eq_true.1 bF j);have bJ:vm rs x u N FF o.nd o.us:=⟨fun j d=>(O.res j (I j d)).1,fun j k d hk=>O.IY j k (I j d) (I k hk)⟩
      --b2 holds of any x b3 answers b7 cc cd ce
      have a7:∀q:ck rs,(∀j,j≠o.key->ef rs q j=ef rs x j)->∃X z,o.fX.at P n ops o.key (σ.Jb keys)=some X/\X=o.ask q/\(c2 ops rs tb cl0 cl1 ob).cs P n (ef rs q) (l.setIfInBounds o.key true) todo σ0=some z/\
          (∃c k,(hI m c k (o.fX.Ju (ef rs q o.key) (σ.Jb keys))).Jb keys=z.Jb keys)/\((l.setIfInBounds o.key true).getD st false=false->(o.fX.Ju (ef rs q o.key) (σ.Jb keys)).aN.take m=bx0)/\m<=((o.fX.Ju (ef rs q o.key) (σ.Jb keys)).Jb keys).aN.length:=fun q bK=>by
        obtain⟨h1,ab⟩:=hx q;have a8:(c2 ops rs tb cl0 cl1 ob).cs P n (ef rs q) l todo σ0=some σ:=by
          rw [←O.cs];exact c8.Km (fun j d=>bK j fun e=>by subst e;rw [bq] at d;cases d) _ _
        simp only [c2] at a8;simp only [c8.lhs,c8.rhs,c2,a8,Option.bind_some,c8.JS,H,Option.map_some] at h1 ab;cases ad:o.fX.at P n ops o.key (σ.Jb keys) with
        |none=>rw [ad] at ab;cases ab
        |some X=>
          rw [ad] at h1;simp only [Option.map_some] at h1;cases y:(c2 ops rs tb cl0 cl1 ob).cs P n (ef rs q) (l.setIfInBounds o.key true) todo σ0 with
          |none=>simp only [c2] at y;rw [y] at h1;cases h1
          |some z=>
            have Q:=y;simp only [c2] at Q;rw [Q] at h1;simp only [Option.map_some,Option.some.injEq,Prod.mk.injEq] at h1;obtain⟨A,_,_,al,B,C⟩:=h1;refine⟨X,z,rfl,al,rfl,⟨_,_,A⟩,fun h=>?_,Nat.le_of_ble_eq_true C⟩;rw [h] at B;exact B
      obtain⟨X,_,ba,bL,_⟩:=a7 x fun _ _=>rfl;rw [←a5] at ba ⊢;refine bI.ok O.S O.up bJ (by rw [ba,bL]) fun bM bN bd be bO bT bU aC Y J=>?_;obtain⟨q,bW,bX,bf⟩:=bH.KN x bO;obtain⟨_,z,_,_,y,⟨c,k,A⟩,B,C⟩:=a7 q fun j d=>(bf j d).2;rw [bX] at A B C;obtain⟨ao,ap,ar⟩:=ag.hI (m:=m) c k _ _ bU O.Kj;have T:=ap.J1 1000 keys;rw [show(⟨_,_⟩:aX)=z.Jb keys from A] at T;rw [a5];have bh:∀j,j∈o.us->∀b,N1 b->¬FF j b:=fun j d b hb h=>(O.res j (I j (.inr d))).2.1 b hb h;have bi:(l.setIfInBounds o.key true).getD st false=false->∀j,j∈o.us->U N0 (FF j):=fun h j d=>by
        rw [Bool.or_eq_true,h] at a4;have aq:=List.all_eq_true.1 (a4.resolve_right aM) j d;exact(O.res j (I j (.inr d))).2.2 (l6 h) (by simpa using aq)
      have ae:∀j,fY pk tb (l.setIfInBounds o.key true) j=true->j=o.key\/(j≠o.key/\fY pk tb l j=true/\∀k,k∈o.us->U (FF j) (FF k)):=fun j d=>by
        by_cases e:j=o.key
        · exact .inl e
        · have bj:=qO e d;exact .inr ⟨e,bj,fun k hk=>O.IY j k bj (I k (.inr hk)) fun ak=>by subst ak;exact Fq aB br d hk⟩
      have bY:∀j,fY pk tb l j=true->(∀k,k∈o.us->U (FF j) (FF k))->∀b,FF j b->be b/\bd.heap[b]? =u.heap[b]? :=fun j d J b hb=>aC b (dg.sub (O.res j d).1 b hb) fun k hk aF=>J k hk b hb aF;have W:me P n ops rs tb pk cl0 cl1 ob st m todo keys σ0 bx0 u0 N0 N1 β0 (l.setIfInBounds o.key true) q bd be ao (fun j=>if j=o.key then bT else FF j) z bM bN:=by
        refine⟨y,T,fun b hb=>?_,fun h b hb=>?_,ar,?_,fun h=>?_,fun j d=>?_,fun i j L d bm=>?_,fun e=>(by subst e;cases aB)⟩
        · obtain⟨aE,aI⟩:=O.up b hb;obtain⟨aK,aL⟩:=aC b aE fun j d=>bh j d b hb;exact⟨aK,aL.trans aI⟩
        · obtain⟨aE,aI⟩:=O.J7 (l6 h) b hb;obtain⟨aK,aL⟩:=aC b aE fun j d aF=>bi h j d b hb aF;exact⟨aK,aL.trans aI⟩
        · rw [←A];simp only [aX.Jb,List.length_take,sb] at C ⊢;exact C
        · rw [←A];have bZ:=B h;simp only [aX.Jb,List.length_take] at C;simp only [aX.Jb,List.take_take];rw [Nat.min_eq_left V,sc];exact bZ
        · rcases ae j d with e|⟨e,h1,ab⟩
          · subst e;simp only [if_true];rw [bW];refine⟨Y,J N1 (fun k hk b hb aF=>bh k hk b hb aF) fun b hb=>(O.up b hb).1,fun h aY=>?_⟩;exact J N0 (fun k hk=>bi h k hk) fun b hb=>(O.J7 (l6 h) b hb).1
          · simp only [if_neg e];obtain⟨au,ax,az⟩:=O.res j h1;rw [(bf j e).1];exact⟨dg.Kc au (bY j h1 ab),ax,fun h aY=>az (l6 h) aY⟩
        · rcases ae i L with e|⟨e,h1,ab⟩
          · rcases ae j d with D|⟨D,aN,bo⟩
            · exact absurd (e.trans D.symm) bm
            · simp only [if_pos e,if_neg D];exact U.symm (J (FF j) bo (dg.sub (O.res j aN).1))
          · rcases ae j d with D|⟨D,aN,bo⟩
            · simp only [if_neg e,if_pos D];exact J (FF i) ab (dg.sub (O.res i h1).1)
            · simp only [if_neg e,if_neg D];exact O.IY i j h1 aN bm
      exact W.next hm (a1 _ _ _ _ _ _ _ _ W)
def A0 (ops:Array Oper) (j:Nat):List Nat:=
  match ops[j]? with
  |some o=>(o.after.toList.filter (Region.binds .any)).map (·.on)
  |none=>[]
def zV (t:Nat) (g:Nat->List Nat):List Nat->List Nat
  |
    []=>[]
  |k::r=>bif Nat.beq k t then [k] else match g k with
    |[]=>zV t g r
    |p=>k::p
def uU (ops:Array Oper) (t:Nat):Nat->Nat->List Nat
  |0,_=>[]
  |f+1,j=>zV t (uU ops t f) (A0 ops j)
def zS (o:Oper):Bool:=o.guard.isNone&&(match o.op with| .pick .. =>false|_=>true)
def p5 (P:Program) (D:c8) (st zz:Nat) (l:Array Bool) (σ:aX):List Nat->Option Nat
  |[]=>none
  |i::r=>bif Nat.blt i zz&&(D.fX i).isNone&&(n6 D.ov i).isNone&&((D.ops[i]?).map zS).getD false&&kV D.ops st l i (bif Nat.ble D.ops.size st then [] else uU D.ops i 30 st)&&km P D.ops σ i then some i else p5 P D st zz l σ r
def mS (P:Program) (n:Nat) (D:c8) (st zz:Nat):Nat->Array Bool->aX->Option (Array Bool×aX×List (Nat×List (Ask×Value))×List (List (List Value)))
  |
    0,l,σ=>some (l,σ,[],[])
  |f+1,l,σ=>match p5 P D st zz l σ (Region.ready .any D.ops l) with
    |
      none=>some (l,σ,[],[])
    |some i=>match gA P n D.ops i 1 σ ((D.gi i).map (·.2)) (pn D.ops i (fA σ.env)) 1000 with
      |none=>none
      |some z=>(mS P n D st zz f (l.setIfInBounds i true) z.1).map fun x=>(x.1,x.2.1,(i,z.2)::x.2.2.1,σ.aN::x.2.2.2)
theorem xX {D:c8} {st zz:Nat} {l:Array Bool} {σ:aX} {i:Nat}:∀{r:List Nat},p5 P D st zz l σ r=some i->(D.fX i).isNone=true/\∃p,kV D.ops st l i p=true/\km P D.ops σ i=true
  |
    [],h=>by cases h
  |j::r,h=>by
    unfold p5 at h;cases hb:(Nat.blt j zz&&(D.fX j).isNone&&(n6 D.ov j).isNone&&((D.ops[j]?).map zS).getD false&&kV D.ops st l j (bif Nat.ble D.ops.size st then [] else uU D.ops j 30 st)&&km P D.ops σ j)
    · rw [hb] at h;exact xX h
    · rw [hb] at h;simp only [cond_true,Option.some.injEq] at h;subst h;simp only [Bool.and_eq_true] at hb;exact⟨hb.1.1.1.1.2,_,hb.1.2,hb.2⟩
theorem xY {R:Act->World->Prop} {D:c8} {st zz g:Nat} {u:World} {N:ah} {o:Nat->Nat} {w:World} {q:List (List Value)} (t:∀i,cm P u N (D.gi i)):∀(f:Nat) (l:Array Bool) (σ:aX) (a:Act) (d:Array Bool×aX×List (Nat×List (Ask×Value))×List (List (List Value))),
    ag P n w0 M u N o σ a w->mS P n D st zz f l σ=some d->(∀e∈d.2.2.1,e.2=D.gi e.1)->(∀b∈d.2.2.2,b=q)->(∀r,ag P n w0 M u N o d.2.1 r w->a_ P D.ops R st (cn w0 M u N o q) g d.1 r w)->a_ P D.ops R st (cn w0 M u N o q) (g+d.2.2.1.length) l a w
  |
    0,l,σ,a,d,S,h,_,_,K=>by
    simp only [mS,Option.some.injEq] at h;subst h;exact K a S
  |f+1,l,σ,a,d,S,h,h1,ab,K=>by
    unfold mS at h;split at h
    · simp only [Option.some.injEq] at h;subst h;exact K a S
    · rename_i i z;split at h
      · cases h
      · rename_i y A;rw [Option.map_eq_some_iff] at h;obtain⟨x,hx,e⟩:=h;subst e;obtain⟨_,p,B,C⟩:=xX z;have F:y.2=D.gi i:=h1 _ List.mem_cons_self;have G:σ.aN=q:=ab _ List.mem_cons_self;subst G;exact ag.hoist (claims:=D.gi i) S B C (t i) (by rw [A,←F]) fun r H=>
          xY t f _ y.1 r x H hx (fun e he=>h1 e (List.mem_cons_of_mem _ he)) (fun b hb=>ab b (List.mem_cons_of_mem _ hb)) K
def hD (l:Array Bool) (f:Nat):List Nat:=(List.range f).filter fun i=>!l.getD i false
def lg (ops:Array Oper) (is:List Nat) (σ:aX):List Nat:=fA σ.env++is.flatMap fun i=>(ia ops i).toList
def c8.Jo (D:c8) (P:Program) (n st zz:Nat) (σ:aX):Array Bool×aX×List (Nat×List (Ask×Value))×List (List (List Value)):=
  (mS P n D st zz D.ops.size (Array.replicate D.ops.size false) σ).getD (#[],σ,[],[])
def c8.to (D:c8) (P:Program) (n zz:Nat) (eT:Nat->Value) (l:Array Bool) (σ:aX):aX:=
  ((D.cs P n eT (dY D.ops.size zz) (hD l D.ops.size) σ).getD σ).Jb (lg D.ops (hD l D.ops.size) σ)
def c8.fin (D:c8) (P:Program) (n st zz:Nat) (eT:Nat->Value) (σ:aX):aX:=D.to P n zz eT (D.Jo P n st zz σ).1 (D.Jo P n st zz σ).2.1
def mf:List ah->ah->Prop->Prop
  |[],_,T=>T
  |G::r,F,T=>U G F/\mf r F T
def jI (Φ:Nat->ah->Prop) (N1:ah):List ah->List Nat->Prop
  |_,[]=>True
  |pv,j::r=>∃F,Φ j F/\U N1 F/\mf pv F (jI Φ N1 (pv++[F]) r)
theorem mf.of {F:ah} {d:Prop} (h:d):∀{f:List ah},(∀l∈f,U l F)->mf f F d
  |[],_=>h
  |_::_,k=>⟨k _ List.mem_cons_self,mf.of h fun l A=>k l (List.mem_cons_of_mem _ A)⟩
def l1:List Nat->Bool
  |[]=>true
  |i::r=>!eY r i&&l1 r
theorem uk {i:Nat}:∀{d:List Nat},i∈d->eY d i=true
  |
    y::r,h=>by
    unfold eY;cases hb:Nat.beq y i
    · rcases List.mem_cons.1 h with e|e
      · rw [e,Nat.beq_refl] at hb;cases hb
      · exact uk e
    · rfl
theorem jI.of {Φ:Nat->ah->Prop} {N1:ah} {FF:Nat->ah}:∀{ks pv:List Nat},l1 ks=true->(∀j∈ks,Φ j (FF j)/\U N1 (FF j))->(∀i j,i∈pv\/i∈ks->j∈ks->i≠j->U (FF i) (FF j))->(∀i,i∈pv->i ∉ ks)->jI Φ N1 (pv.map FF) ks
  |
    [],_,_,_,_,_=>trivial
  |j::r,pv,bc,h1,ab,aq=>by
    unfold l1 at bc;simp only [Bool.and_eq_true,Bool.not_eq_true'] at bc;have d:j ∉ r:=fun h=>by rw [uk h] at bc;cases bc.1
    refine⟨FF j,(h1 j List.mem_cons_self).1,(h1 j List.mem_cons_self).2,mf.of ?_ fun f l=>?_⟩
    · have:=jI.of (Φ:=Φ) (N1:=N1) (FF:=FF) (ks:=r) (pv:=pv++[j]) bc.2 (fun i A=>h1 i (List.mem_cons_of_mem _ A))
        (fun a b B hb=>ab a b (B.elim (fun h=>(List.mem_append.1 h).elim .inl fun h=> .inr (by rw [List.mem_singleton.1 h];exact List.mem_cons_self)) fun h=> .inr (List.mem_cons_of_mem _ h)) (List.mem_cons_of_mem _ hb))
        (fun i A=>(List.mem_append.1 A).elim (fun h aU=>aq i h (List.mem_cons_of_mem _ aU)) fun h=>by rw [List.mem_singleton.1 h];exact d)
      rw [List.map_append] at this;exact this
    · obtain⟨i,A,rfl⟩:=List.mem_map.1 l;exact ab i j (.inl A) List.mem_cons_self fun e=>aq i A (e▸List.mem_cons_self)
inductive hG (P:Program) (n:Nat) (w0:World) (M:ah) (ops:Array Oper) (u0:World) (N1:ah) (rs:List (dq w0 M)):List (dq w0 M)->List (fC (ck rs))->Prop
  |nil:hG P n w0 M ops u0 N1 rs [] []
  |cons {e:dq w0 M} {r:List (dq w0 M)} {t:List (fC (ck rs))} {nd us:List Nat} {fX:g5} {ask:ck rs->iI}:ft P n w0 M ops u0 N1 rs e nd us fX ask->hG P n w0 M ops u0 N1 rs r t->hG P n w0 M ops u0 N1 rs (e::r) (⟨e.key,nd,us,fX,ask⟩::t)
  |pre {e:dq w0 M} {r:List (dq w0 M)} {t:List (fC (ck rs))}:hG P n w0 M ops u0 N1 rs r t->hG P n w0 M ops u0 N1 rs (e::r) t
theorem hG.get {N:ah} {u:World}:∀{r:List (dq w0 M)} {t:List (fC (ck rs))},hG P n w0 M ops u N rs r t->∀d∈t,∃e∈r,e.key=d.key/\ft P n w0 M ops u N rs e d.nd d.us d.fX d.ask
  |
    _,_,.nil,d,f=>by cases f
  |_,_,.cons (e:=e) h t,d,f=>by
    rcases List.mem_cons.1 f with l|l
    · subst l;exact⟨e,List.mem_cons_self,rfl,h⟩
    · obtain⟨o,ab,aq⟩:=hG.get t d l;exact⟨o,List.mem_cons_of_mem _ ab,aq⟩
  |_,_,.pre t,d,f=>by
    obtain⟨o,ab,aq⟩:=hG.get t d f;exact⟨o,List.mem_cons_of_mem _ ab,aq⟩
theorem Has.of {e:dq w0 M}:∀{rs:List (dq w0 M)},e∈rs->l1 (rs.map (·.key))=true->Has rs e.key e
  |
    y::r,h,bc=>by
    rw [List.map_cons] at bc;unfold l1 at bc;simp only [Bool.and_eq_true,Bool.not_eq_true'] at bc;rcases List.mem_cons.1 h with d|d
    · subst d;exact .inl ⟨rfl,rfl⟩
    · refine .inr ⟨fun ab=>?_,Has.of d bc.2⟩;have:=uk (List.mem_map_of_mem (f:=(·.key)) d);rw [←ab] at this;rw [this] at bc;cases bc.1
def nj {X:Type} (pk:List Nat) (tb:List (fC X)):List Nat:=(pk++tb.map (·.key)).filter fun j=>tb.all fun z=>!eY z.us j
section
variable (P n) (rs) (tb:List (fC (ck rs))) (pk:List Nat) (D:c8) (vC:List Nat) (st zz:Nat) (l:Array Bool) (m:Nat) (σ:aX)
def rK (f:Nat):Bool:=
  po D.ops (dY D.ops.size zz) zz f [l]&&(mj D.ops f [l]).all (uB pk tb vC st)&&(tb.all fun e=>!l.getD e.key false)&&l1 (rs.map (·.key))&&l1 (nj pk tb)&&(nj pk tb).all (fY pk tb (dY D.ops.size zz))&&Nat.ble m (σ.Jb (lg D.ops (hD l D.ops.size) σ)).aN.length
def rL (bx0:List (List Value)) (x:ck rs) (ob:List (Nat×Bool×Bool)) (e:Array Bool×Nat):=
  (D.lhs P n (ef rs x) st m (hD l D.ops.size) (lg D.ops (hD l D.ops.size) σ) σ e,D.rhs P n (ef rs x) st m (hD l D.ops.size) (lg D.ops (hD l D.ops.size) σ) σ bx0 ob (fun i=>(kd tb i).map (·.ask x)) e)
structure r2 (f:Nat) (bx0:List (List Value)) (ob:List (Nat×Bool×Bool)) (x:ck rs):Prop where
  e:((mj D.ops f [l]).map (rL P n rs tb D st l m σ bx0 x ob)).map (·.1)=((mj D.ops f [l]).map (rL P n rs tb D st l m σ bx0 x ob)).map (·.2)
  s:((mj D.ops f [l]).all fun e=>(rL P n rs tb D st l m σ bx0 x ob e).1.isSome)=true
def mz:Bool:=
  (mS P n D st zz D.ops.size (Array.replicate D.ops.size false) σ).isSome&&Nat.ble zz D.ops.size&&Nat.ble (D.Jo P n st zz σ).2.2.1.length zz&&rK rs tb pk D vC st zz (D.Jo P n st zz σ).1 σ.aN.length (D.Jo P n st zz σ).2.1 (zz-(D.Jo P n st zz σ).2.2.1.length)
structure nz (ob:List (Nat×Bool×Bool)) (x:ck rs):Prop where
  q:(D.Jo P n st zz σ).2.2.1.map (·.2)=(D.Jo P n st zz σ).2.2.1.map fun e=>D.gi e.1
  b:(D.Jo P n st zz σ).2.2.2=List.replicate (D.Jo P n st zz σ).2.2.2.length σ.aN
  t:((D.Jo P n st zz σ).2.1.Jb (lg D.ops (hD (D.Jo P n st zz σ).1 D.ops.size) (D.Jo P n st zz σ).2.1)).aN.take σ.aN.length=σ.aN
  g:r2 P n rs tb D st (D.Jo P n st zz σ).1 σ.aN.length (D.Jo P n st zz σ).2.1 (zz-(D.Jo P n st zz σ).2.2.1.length) σ.aN ob x
end
theorem w7 {D:c8} {d:Nat->Value} {l:Array Bool} {σ:aX}:∀{f:List Nat},(∀i∈f,l.getD i false=false)->D.cs P n d l f σ=some σ
  |
    [],_=>rfl
  |i::f,h=>by
    unfold c8.cs;rw [h i List.mem_cons_self];exact w7 fun j A=>h j (List.mem_cons_of_mem _ A)
theorem zp {α d:Type} {f g:α->d}:∀{l:List α},l.map f=l.map g->∀e∈l,f e=g e:=fun h=>List.map_inj_left.1 h
theorem z6 {st zz f g m:Nat} {R:Act->World->Prop} {u:World} {N N1:ah} {d:Nat->Nat} {σ:aX} {bx0:List (List Value)} {l:Array Bool} {a:Act} {w:World} (S:ag P n w0 M u N d σ a w) {ops:Array Oper} {rs:List (dq w0 M)} {tb:List (fC (ck rs))} {pk:List Nat} {FF0:Nat->ah} {cl0 cl1:List (Nat×Ask×Value)} {ob:List (Nat×Bool×Bool)}
    (hm:m=bx0.length) (o:l.getD st false=false->(σ.Jb (lg ops (hD l ops.size) σ)).aN.take m=bx0) (q:∀b,N1 b->N b) (aY:∀j,eY pk j=true->dg rs (ck.J8 rs) j u N (FF0 j)/\U N1 (FF0 j)) (r:∀i j,eY pk i=true->eY pk j=true->i≠j->U (FF0 i) (FF0 j)) (t:fe P u N cl0) (y:fe P u N1 cl1) (z:gd ob) (A:hG P n w0 M ops u N1 rs rs tb)
    (B:∀{C w' D G β'} (x:ck rs),ag P n w0 M D G β' ((c2 ops rs tb cl0 cl1 ob).to P n zz (ef rs x) l σ) C w'->d_ N1 u G D->jI (fun j F=>dg rs x j D G F) N1 [] (nj pk tb)->(tb=[]->D=u/\G=N)->a_ P ops R st (cn w0 M u N d bx0) g (dY ops.size zz) C w')
    (hb:rK rs tb pk (c2 ops rs tb cl0 cl1 ob) (nf cl0) st zz l m σ f=true) (he:∀x,r2 P n rs tb (c2 ops rs tb cl0 cl1 ob) st l m σ f bx0 ob x):a_ P ops R st (cn w0 M u N d bx0) (f+g) l a w:=by
  simp only [rK,Bool.and_eq_true] at hb;obtain⟨⟨⟨⟨⟨⟨C,H⟩,I⟩,J⟩,K⟩,L⟩,Q⟩:=hb;refine w9 (P:=P) (n:=n) (ops:=ops) (rs:=rs) (tb:=tb) (pk:=pk) (cl0:=cl0) (cl1:=cl1) (ob:=ob) (m:=m) (todo:=hD l ops.size) (keys:=lg ops (hD l ops.size) σ) (σ0:=σ) (bx0:=bx0) (u0:=u) (N0:=N) (N1:=N1) (β0:=d) (full:=dY ops.size zz) (zz:=zz)
    hm (fun T W=>?_) t y q z (fun x D G β' X Y ad ae O=>?_) _ [l] C (fun e D=>⟨List.all_eq_true.1 H e D,fun x=>?_⟩) l List.mem_cons_self (ck.J8 rs) u N d FF0 σ a w ?_
  · obtain⟨e,h1,ab,aq⟩:=A.get T W;exact⟨e,ab,ab▸Has.of h1 J,aq⟩
  · have A:(c2 ops rs tb cl0 cl1 ob).to P n zz (ef rs x) l σ=Y.Jb (lg ops (hD l ops.size) σ):=by
      show aX.Jb (Option.getD ((c2 ops rs tb cl0 cl1 ob).cs P n (ef rs x) (dY ops.size zz) (hD l ops.size) σ) _) _=_;rw [O.cs];rfl
    have C:=O.S;rw [←A] at C;refine B x C O.up ?_ O.nl;refine jI.of (FF:=X) (pv:=[]) K (fun j A=>?_) (fun i j B A C=>?_) (fun i B=>by cases B)
    · have ab:=List.all_eq_true.1 L j A;exact⟨(O.res j ab).1,(O.res j ab).2.1⟩
    · exact O.IY i j (List.all_eq_true.1 L i (B.resolve_left (fun h=>by cases h))) (List.all_eq_true.1 L j A) C
  · have G:=he x;have h1:=G.e;rw [List.map_map,List.map_map] at h1;have aq:=zp h1 e D;have bg:=List.all_eq_true.1 G.s e D;simp only [rL,Function.comp] at aq bg;exact⟨aq,bg⟩
  · have D:∀i∈hD l ops.size,l.getD i false=false:=fun i B=>by
      have:=(List.mem_filter.1 B).2
      simpa using this
    have G:∀j,fY pk tb l j=true->eY pk j=true:=fun j A=>by
      unfold fY at A;simp only [Bool.and_eq_true,Bool.or_eq_true] at A;rcases A.1 with h|⟨h,ab⟩
      · exact h
      · rw [Option.isSome_iff_exists] at ab;obtain⟨T,W⟩:=ab;obtain⟨H,J⟩:=rX W;have aq:=List.all_eq_true.1 I T H;rw [J,h] at aq;cases aq
    exact⟨w7 D,S.J1 1000 _,fun b hb=>⟨q b hb,rfl⟩,fun _ b hb=>⟨hb,rfl⟩,fun _ _=>rfl,Nat.le_of_ble_eq_true Q,o,fun j A=>⟨(aY j (G j A)).1,(aY j (G j A)).2,fun _ h=>(by rw [G j A] at h;cases h)⟩,fun i j B A C=>r i j (G i B) (G j A) C,fun _=>⟨rfl,rfl⟩⟩
theorem ag.Kb {r:bL} {u:World} {N N1:ah} {d:Nat->Nat} {a:Act} {w:World} {Q:Exit->Act->World->Prop} (S:ag P n w0 M u N d r.σ a w) (st zz:Nat) (rs:List (dq w0 M)) {tb:List (fC (ck rs))} {pk:List Nat} {FF0:Nat->ah} {cl0 cl1:List (Nat×Ask×Value)} {ob:List (Nat×Bool×Bool)}
    (f:∀b,N1 b->N b) (aY:∀j,eY pk j=true->dg rs (ck.J8 rs) j u N (FF0 j)/\U N1 (FF0 j)) (l:∀i j,eY pk i=true->eY pk j=true->i≠j->U (FF0 i) (FF0 j)) (o:fe P u N cl0) (q:fe P u N1 cl1) (t:gd ob) (y:hG P n w0 M r.aQ.opsOf u N1 rs rs tb)
    (z:∀{A w' B C β'} (x:ck rs),ag P n w0 M B C β' ((c2 r.aQ.opsOf rs tb cl0 cl1 ob).fin P n st zz (ef rs x) r.σ) A w'->d_ N1 u C B->jI (fun j F=>dg rs x j B C F) N1 [] (nj pk tb)->(tb=[]->B=u/\C=N)->a_ P r.aQ.opsOf (iZ P Q r .normal) st (cn w0 M u N d r.σ.aN) (r.aQ.opsOf.size-zz) (dY r.aQ.opsOf.size zz) A w')
    (hc:r.aQ.JL=true) (hm:P.follows .mixedOrders=true) (hb:mz P n rs tb pk (c2 r.aQ.opsOf rs tb cl0 cl1 ob) (nf cl0) st zz r.σ=true) (he:∀x,nz P n rs tb (c2 r.aQ.opsOf rs tb cl0 cl1 ob) st zz r.σ ob x):bU P Q r a w:=by
  refine h_ ?_ hc;simp only [mz,Bool.and_eq_true] at hb;obtain⟨⟨⟨D,G⟩,H⟩,I⟩:=hb;rw [Option.isSome_iff_exists] at D;obtain⟨J,K⟩:=D;have L:(c2 r.aQ.opsOf rs tb cl0 cl1 ob).Jo P n st zz r.σ=J:=by unfold c8.Jo;rw [K];rfl
  refine S.JF (f:=r.aQ.opsOf.size) st hm rfl fun aD D=>?_;have O:=he (ck.J8 rs);have R:=Nat.le_of_ble_eq_true H;have T:=Nat.le_of_ble_eq_true G;rw [L] at R;have H:zz<=r.aQ.opsOf.size:=T;have G:∀i,cm P u N (hz (cl0++cl1) i):=fun i=>q1 (fe.app o (cm.up q fun b hb=>⟨f b hb,rfl⟩));have H:∀b∈J.2.2.2,b=r.σ.aN:=fun b hb=>by
    have h:=O.b;rw [L] at h;rw [h] at hb;exact(List.mem_replicate.1 hb).2
  have h1:=xY (g:=(zz-J.2.2.1.length)+(r.aQ.opsOf.size-zz)) (D:=c2 r.aQ.opsOf rs tb cl0 cl1 ob) (R:=iZ P Q r .normal) G _ _ _ a J D K (by have h:=O.q;rw [L] at h;exact zp h) H fun A D=>?_
  · rw [show(zz-J.2.2.1.length)+(r.aQ.opsOf.size-zz)+J.2.2.1.length=r.aQ.opsOf.size by omega] at h1;exact h1
  refine z6 D (m:=r.σ.aN.length) rfl (fun _=>?_) f aY l o q t y (fun {A D B C β'} x G H J bc=>z (β':=β') x ?_ H J bc) (by rw [L] at I;exact I) fun x=>(by have h:=(he x).g;rw [L] at h;exact h)
  · have:=O.t;rw [L] at this;exact this
  · unfold c8.fin;rw [L];exact G
section
variable {α g4:Type} [GT α] [GT g4]
theorem af.Kn {u:World} {N F:ah} {d:World} {f:ah} {x:α} {p:GT.Ptr α} (h:af w0 M u N F x p) (g:∀b,F b->f b/\d.heap[b]? =u.heap[b]?):af w0 M d f F x p:=
  ⟨GT.bh h.own (fun b hb _=>(g b hb).2),fun b hb=>(g b hb).1,h.I1⟩
def dq.o (k:Nat) (x:α):dq w0 M:=⟨k,GT.Ptr α,GT.bW,GT.val x,fun q u N F=>af w0 M u N F x q,af.Kn,af.sub⟩
def dq.q (k:Nat) (x:α) (oD:g4):dq w0 M:=⟨k,GT.Ptr α×GT.Ptr g4,(GT.bW,GT.bW),fun q=> .tuple #[GT.val x q.1,GT.val oD q.2],fun q u N F=>af w0 M u N F x q.1/\GT.own a2 I u oD q.2,
  fun h g=>⟨h.1.Kn g,GT.bh h.2 fun _ hb _=>False.elim hb⟩,fun h=>h.1.sub⟩
def dq.t (k:Nat) (x:α) (i:Int) (b:Bool):dq w0 M:=⟨k,GT.Ptr α,GT.bW,fun q=> .tuple #[GT.val x q,O i,B b],fun q u N F=>af w0 M u N F x q/\au i,fun h g=>⟨h.1.Kn g,h.2⟩,fun h=>h.1.sub⟩
variable {ops:Array Oper} {u0:World} {N1:ah} {rs r:List (dq w0 M)} {tb:List (fC (ck rs))}
theorem sN {i:Nat} {σ:aX} {d:Tmp} {f:FuncId} {l:List Value} (h:(g5.call d).at P n ops i σ=some (.call f l)):ep P n ops i σ=some (f,l,d):=by
  simp only [g5.at,Option.bind_eq_some_iff] at h;obtain⟨⟨A,B,C⟩,h1,ab⟩:=h;cases hb:Nat.beq C d
  · simp only [hb,cond_false] at ab;cases ab
  · simp only [hb,cond_true,Option.some.injEq,iI.call.injEq] at ab;obtain⟨rfl,rfl⟩:=ab;rw [h1,Nat.eq_of_beq_eq_true hb]
def h5 (rs:List (dq w0 M)) (x:ck rs) (u:World) (N:ah) (FF:Nat->ah):List Nat->Prop
  |[]=>True
  |[j]=>dg rs x j u N (FF j)
  |j::r=>dg rs x j u N (FF j)/\h5 rs x u N FF r
theorem h5.of {x:ck rs} {u:World} {N:ah} {FF:Nat->ah}:∀{nd:List Nat},(∀j,j∈nd->dg rs x j u N (FF j))->h5 rs x u N FF nd
  |[],_=>trivial
  |[j],h=>h j List.mem_cons_self
  |j::k::r,h=>⟨h j List.mem_cons_self,h5.of (nd:=k::r) fun i d=>h i (List.mem_cons_of_mem _ d)⟩
theorem Calls.KY {f:FuncId} {d:Array Value} {w:World} {R l:Ending->World->Prop} (c:Calls P f d w R) (h:R=l):Calls P f d w l:=h▸c
abbrev r4 (P:Program) (n:Nat) (w0:World) (M:ah) (u0:World) (N1:ah) (rs:List (dq w0 M)) (nd:List Nat) (f:FuncId) (AG:ck rs->List Value) (R:World->Ending->World->Prop):Prop:=
  ∀{t:ck rs} {u:World} {N:ah} {β:Nat->Nat} {σ:aX} {a:Act} {w:World} {FF:Nat->ah},ag P n w0 M u N β σ a w->d_ N1 u0 N u->h5 rs t u N FF nd->Calls P f (AG t).toArray w (R w)
theorem ft.I0 {k:Nat} {f:FuncId} {l:ck rs->List Value} {x:α} (d:Nat) (nd:List Nat) (h:r4 P n w0 M u0 N1 rs nd f l fun o=>bO I o x) (hd:Nat.blt d n=true:=by kernel_rfl):
    ft P n w0 M ops u0 N1 rs (.o k x) nd [] (.call d) (fun t=> .call f (l t)):=⟨fun S A B C D=>
  S.Kl (h S A (h5.of fun j F=>B.1 j (.inl F))) (sN C) hd fun A G H J K L N O Q=>D A G _ H J K L (fun b hb _=>N b hb) O fun A _ B b hb aF=>Q b (B b hb) aF⟩
theorem ft.Jv {k:Nat} {f:FuncId} {l:ck rs->List Value} {x:α} {o:g4} (d:Nat) (nd:List Nat) (h:r4 P n w0 M u0 N1 rs nd f l fun w=>cf I w x o) (hd:Nat.blt d n=true:=by kernel_rfl) (hfl:∀{F:ah} {u:World} {q:GT.Ptr g4},GT.own a2 F u o q->GT.own a2 I u o q:=by exact fun h=>h):
    ft P n w0 M ops u0 N1 rs (.q k x o) nd [] (.call d) (fun t=> .call f (l t)):=⟨fun S A B C D=>
  S.call2 (h S A (h5.of fun j G=>B.1 j (.inl G))) (sN C) hd fun A H J q K F L N O Q R T _ _=>D A H _ J (q,K) F N (fun b hb _=>O b hb) ⟨Q,hfl R.own⟩ fun A _ B b hb aF=>T b (B b hb) aF⟩
theorem ft.Kk {k:Nat} {f:FuncId} {l:ck rs->List Value} {x:α} {i:Int} {c:Bool} (d:Nat) (nd:List Nat) (h:r4 P n w0 M u0 N1 rs nd f l fun o=>g6 I o x i c) (hd:Nat.blt d n=true:=by kernel_rfl):
    ft P n w0 M ops u0 N1 rs (.t k x i c) nd [] (.call d) (fun t=> .call f (l t)):=⟨fun S A B C D=>
  S.call3 (h S A (h5.of fun j F=>B.1 j (.inl F))) (sN C) hd fun A G H J K L N O Q R=>D A G _ H J K L (fun b hb _=>N b hb) ⟨O,R⟩ fun A _ B b hb aF=>Q b (B b hb) aF⟩
theorem sa {i:Nat} {σ:aX} {d:Tmp} {f:List Value} {m:Nat} (h:(g5.gg d).at P n ops i σ=some (.gg f m)):kq P n ops i σ=some (f,m,d):=by
  simp only [g5.at,Option.bind_eq_some_iff] at h;obtain⟨⟨A,B,C⟩,h1,ab⟩:=h;cases hb:Nat.beq C d
  · simp only [hb,cond_false] at ab;cases ab
  · simp only [hb,cond_true,Option.some.injEq,iI.gg.injEq] at ab;obtain⟨rfl,rfl⟩:=ab;rw [h1,Nat.eq_of_beq_eq_true hb]
theorem r7 {i:Nat} {σ:aX} {d:Tmp} {x y:Value} {f by':Nat} (h:(g5.app d).at P n ops i σ=some (.app x y f by')):iJ P n ops i σ=some (x,y,f,by',d):=by
  simp only [g5.at,Option.bind_eq_some_iff] at h;obtain⟨⟨A,B,C,D,F⟩,h1,ab⟩:=h;cases hb:Nat.beq F d
  · simp only [hb,cond_false] at ab;cases ab
  · simp only [hb,cond_true,Option.some.injEq,iI.app.injEq] at ab;obtain⟨rfl,rfl,rfl,rfl⟩:=ab;rw [h1,Nat.eq_of_beq_eq_true hb]
theorem ft.JJ {k:Nat} (d:Nat):ft P n w0 M ops u0 N1 rs (.o k ([]:List α)) [] [] (.gg d) (fun _=> .gg [] 0):=⟨fun S f l o q=>
  S.Kx (α:=α) (sa o) fun A B C D F G H I J=>q A B _ C D F G (fun b hb _=>H b hb) I fun A _ B b hb aF=>J b (B b hb) aF⟩
theorem ft.s1 {k:Nat} {x:α} (j d:Nat) {p:ck rs->GT.Ptr α} (f:∀{t:ck rs} {u:World} {N F:ah},dg rs t j u N F->af w0 M u N F x (p t)):ft P n w0 M ops u0 N1 rs (.o k [x]) [] [j] (.gg d) (fun t=> .gg (GT.cells x (p t)) 1):=⟨fun S l o q w=>
  have A:=f (o.1 j (.inr (List.mem_singleton.2 rfl)))
  S.JW A.own A.sub A.I1 (sa q) fun B C D G F H I J K=>w B C _ D G F H (fun b hb _=>I b hb) J fun A B C=>K A (B j (List.mem_singleton.2 rfl)) C⟩
theorem ft.KK {k:Nat} {x:α} {p:GT.Ptr α} (d:Nat) (h:∀{u:World},GT.own a2 I u x p):ft P n w0 M ops u0 N1 rs (.o k [x]) [] [] (.gg d) (fun t=> .gg (GT.cells x p) 1):=⟨fun S f l o q=>
  S.JW (F:=I) h (fun _ h=>False.elim h) (fun _ h=>False.elim h) (sa o) fun A B C D F G H J K=>q A B _ C D F G (fun b hb _=>H b hb) J fun A B C=>K A (fun _ _ h=>False.elim h) C⟩
theorem ft.Ku {k:Nat} {xs f:List α} {q:ck rs->ak α} {by':Nat} (j d:Nat) (nd:List Nat) (hfl:∀{u:World} {N:ah} (x:α) (r:GT.Ptr α),GT.rd a2 N u x r->GT.own a2 I u x r) {p:ck rs->ak α} (l:∀{t:ck rs} {u:World} {N F:ah},dg rs t j u N F->af w0 M u N F xs (p t))
    (hy:∀{t:ck rs} {u:World} {N:ah} {o:Nat->Nat} {σ:aX} {a:Act} {w:World} {FF:Nat->ah},ag P n w0 M u N o σ a w->d_ N1 u0 N u->h5 rs t u N FF nd->i_ u N f (q t)) (hl:xs.length+f.length<=a2):
    ft P n w0 M ops u0 N1 rs (.o k (xs++f)) nd [j] (.app d) (fun t=> .app (J xs.length (p t).1) (J f.length (q t).1) (GT.width α) by'):=⟨fun S A B C D=>
  S.Kh (l (B.1 j (.inr (List.mem_singleton.2 rfl)))) (hy S A (h5.of fun j l=>B.1 j (.inl l))) hfl rfl rfl (r7 C) hl fun A G H q F K L O Q=>D A G _ H q F K (fun b hb h=>L b hb (h j (List.mem_singleton.2 rfl))) O fun A B C=>Q A (B j (List.mem_singleton.2 rfl)) C⟩
theorem ft.JI {k:Nat} {f:List α} {q:ck rs->ak α} {by':Nat} (j d:Nat) (nd:List Nat) (hfl:∀{u:World} {N:ah} (x:α) (r:GT.Ptr α),GT.rd a2 N u x r->GT.own a2 I u x r) {p:ck rs->ak α} (l:∀{t:ck rs} {u:World} {N F:ah},dg rs t j u N F->af w0 M u N F ([]:List α) (p t))
    (hy:∀{t:ck rs} {u:World} {N:ah} {o:Nat->Nat} {σ:aX} {a:Act} {w:World} {FF:Nat->ah},ag P n w0 M u N o σ a w->d_ N1 u0 N u->h5 rs t u N FF nd->i_ u N f (q t)):
    ft P n w0 M ops u0 N1 rs (.o k f) nd [j] (.app d) (fun t=> .app (J 0 (p t).1) (J f.length (q t).1) (GT.width α) by'):=⟨fun S A B C D=>
  have aU:=hy S A (h5.of fun j l=>B.1 j (.inl l))
  S.Kv (l (B.1 j (.inr (List.mem_singleton.2 rfl)))) aU hfl (lx:=0) (ly:=f.length) rfl (fun A B G q F H K L O=>D A B _ G q F H (fun b hb h=>K b hb (h j (List.mem_singleton.2 rfl))) L fun A B D=>O A (B j (List.mem_singleton.2 rfl)) D) rfl (r7 C)⟩
theorem ft.r6 {k:Nat} {xs f:List α} {by':Nat} (j i d:Nat) {p q:ck rs->ak α} (l:j≠i) (o:∀{t:ck rs} {u:World} {N F:ah},dg rs t j u N F->af w0 M u N F xs (p t)) (hi:∀{t:ck rs} {u:World} {N F:ah},dg rs t i u N F->af w0 M u N F f (q t)) (hl:xs.length+f.length<=a2):
    ft P n w0 M ops u0 N1 rs (.o k (xs++f)) [] [j,i] (.app d) (fun t=> .app (J xs.length (p t).1) (J f.length (q t).1) (GT.width α) by'):=⟨fun S A B C D=>
  have A:j∈[j,i]:=List.mem_cons_self;have G:i∈[j,i]:=List.mem_cons_of_mem _ List.mem_cons_self
  S.J3 (o (B.1 j (.inr A))) (hi (B.1 i (.inr G))) (B.2 j i (.inr A) (.inr G) l) rfl rfl (r7 C) hl fun H I K q F L O Q R=>D H I _ K q F L (fun b hb h=>O b hb (h j A)) Q fun B C D=>R B (C j A) (C i G) D⟩
end
theorem ag.br {r:bL} {u:World} {N:ah} {d:Nat->Nat} {a:Act} {w:World} {Q:Exit->Act->World->Prop} (S:ag P n w0 M u N d r.σ a w) (st:Nat) (rs:List (dq w0 M)) {tb:List (fC (ck rs))} {f:List (Nat×Ask×Value)} {ob:List (Nat×Bool×Bool)}
    (A:fe P u N f) (B:gd ob) (C:hG P n w0 M r.aQ.opsOf u N rs rs tb)
    (K:∀{D w' G H β'} (x:ck rs),ag P n w0 M G H β' ((c2 r.aQ.opsOf rs tb [] f ob).fin P n st r.aQ.opsOf.size (ef rs x) r.σ) D w'->d_ N u H G->jI (fun j F=>dg rs x j G H F) N [] (nj [] tb)->bU P Q (r.JG ((c2 r.aQ.opsOf rs tb [] f ob).fin P n st r.aQ.opsOf.size (ef rs x) r.σ)) D w')
    (hb:(r.aQ.JL&&P.follows .mixedOrders&&mz P n rs tb [] (c2 r.aQ.opsOf rs tb [] f ob) [] st r.aQ.opsOf.size r.σ&&(Region.ready .any r.aQ.opsOf (dY r.aQ.opsOf.size r.aQ.opsOf.size)).isEmpty)=true:=by kernel_rfl) (he:∀x,nz P n rs tb (c2 r.aQ.opsOf rs tb [] f ob) st r.aQ.opsOf.size r.σ ob x:=by intro x;exact⟨an,an,an,⟨an,an⟩⟩):bU P Q r a w:=by
  simp only [Bool.and_eq_true] at hb;exact S.Kb st _ rs (pk:=[]) (cl0:=[]) (FF0:=fun _=>I) (fun _ h=>h) (fun j h=>by cases h) (fun i j h=>by cases h) trivial A B C (fun x S D h _=>a_.done (List.isEmpty_iff.1 hb.2) ⟨(K x S D h).ok⟩ _) hb.1.1.1 hb.1.1.2 hb.1.2 he
theorem ag.Jg {r:bL} {u:World} {N:ah} {d:Nat->Nat} {a:Act} {w:World} {Q:Exit->Act->World->Prop} (S:ag P n w0 M u N d r.σ a w) (st:Nat) {f:List (Nat×Ask×Value)} {ob:List (Nat×Bool×Bool)} (l:fe P u N f) (o:gd ob)
    (K:∀{A w' β'},ag P n w0 M u N β' ((c2 (w0:=w0) (M:=M) r.aQ.opsOf [] [] [] f ob).fin P n st r.aQ.opsOf.size (fun _=>undef) r.σ) A w'->bU P Q (r.JG ((c2 (w0:=w0) (M:=M) r.aQ.opsOf [] [] [] f ob).fin P n st r.aQ.opsOf.size (fun _=>undef) r.σ)) A w')
    (hb:(r.aQ.JL&&P.follows .mixedOrders&&mz (w0:=w0) (M:=M) P n [] [] [] (c2 (w0:=w0) (M:=M) r.aQ.opsOf [] [] [] f ob) [] st r.aQ.opsOf.size r.σ&&(Region.ready .any r.aQ.opsOf (dY r.aQ.opsOf.size r.aQ.opsOf.size)).isEmpty)=true:=by kernel_rfl) (he:nz (w0:=w0) (M:=M) P n [] [] (c2 (w0:=w0) (M:=M) r.aQ.opsOf [] [] [] f ob) st r.aQ.opsOf.size r.σ ob ():=by exact⟨an,an,an,⟨an,an⟩⟩):bU P Q r a w:=by
  simp only [Bool.and_eq_true] at hb;refine S.Kb st _ [] (pk:=[]) (cl0:=[]) (FF0:=fun _=>I) (fun _ h=>h) (fun j h=>by cases h) (fun i j h=>by cases h) trivial l o .nil (fun x A B h e=>?_) hb.1.1.1 hb.1.1.2 hb.1.2 fun _=>he;obtain⟨B,C⟩:=e rfl;rw [B,C] at A;exact a_.done (List.isEmpty_iff.1 hb.2) ⟨(K A).ok⟩ _
structure kj (P:Program) (Q:Exit->Act->World->Prop) (r:bL) (st zz:Nat) (a:Act) (w:World):Prop where
  ok:∀C,a_ P r.aQ.opsOf (iZ P Q r .normal) st C (r.aQ.opsOf.size-zz) (dY r.aQ.opsOf.size zz) a w
theorem a_.KB {ops:Array Oper} {R:Act->World->Prop} {st:Nat} {C d:World->Prop}:∀(f:Nat) (l:Array Bool) (a:Act) (w:World),l.getD st false=true->a_ P ops R st C f l a w->a_ P ops R st d f l a w
  |0,_,_,_,_,h=>h
  |f+1,l,_,_,hl,h=>⟨h.1,fun i A=>wpOp_mono (fun B D F=>⟨fun G=>(by rw [getD_set_true hl] at G;cases G),a_.KB f _ B D (getD_set_true hl) F.2⟩) (h.2 i A)⟩
theorem kj.one {r:bL} {Q:Exit->Act->World->Prop} {st zz:Nat} {C:World->Prop} {a:Act} {w:World} (h:wpOp P r.aQ.opsOf (fs (iZ P Q r .normal)) zz (kj P Q r st (zz+1)) a w)
    (d:(Nat.blt zz r.aQ.opsOf.size&&mB (Region.ready .any r.aQ.opsOf (dY r.aQ.opsOf.size zz)) [zz]&&jO ((dY r.aQ.opsOf.size zz).setIfInBounds zz true).toList (dY r.aQ.opsOf.size (zz+1)).toList&&(dY r.aQ.opsOf.size (zz+1)).getD st false)=true):a_ P r.aQ.opsOf (iZ P Q r .normal) st C (r.aQ.opsOf.size-zz) (dY r.aQ.opsOf.size zz) a w:=by
  simp only [Bool.and_eq_true] at d;obtain⟨⟨⟨h1,ab⟩,aq⟩,bg⟩:=d;have h1:zz<r.aQ.opsOf.size:=by simpa [Nat.blt_eq] using h1
  rw [show r.aQ.opsOf.size-zz=(r.aQ.opsOf.size-(zz+1))+1 by omega];refine a_.one (xg ab) ?_;rw [show(dY r.aQ.opsOf.size zz).setIfInBounds zz true=dY r.aQ.opsOf.size (zz+1) from Array.ext' (pr aq)];exact wpOp_mono (fun A B D=>⟨fun A=>(by rw [bg] at A;cases A),D.ok C⟩) h
theorem ag.c9 {r:bL} {u:World} {N:ah} {d:Nat->Nat} {a:Act} {w:World} {Q:Exit->Act->World->Prop} (S:ag P n w0 M u N d r.σ a w) (st zz:Nat) (rs:List (dq w0 M)) {tb:List (fC (ck rs))} {f:List (Nat×Ask×Value)} {ob:List (Nat×Bool×Bool)}
    (A:fe P u N f) (B:gd ob) (C:hG P n w0 M r.aQ.opsOf u N rs rs tb)
    (K:∀{D w' G H β'} (x:ck rs),ag P n w0 M G H β' ((c2 r.aQ.opsOf rs tb [] f ob).fin P n st zz (ef rs x) r.σ) D w'->d_ N u H G->jI (fun j F=>dg rs x j G H F) N [] (nj [] tb)->wpOp P r.aQ.opsOf (fs (iZ P Q r .normal)) zz (kj P Q r st (zz+1)) D w')
    (hb:(r.aQ.JL&&P.follows .mixedOrders&&mz P n rs tb [] (c2 r.aQ.opsOf rs tb [] f ob) [] st zz r.σ)=true:=by kernel_rfl) (D:(Nat.blt zz r.aQ.opsOf.size&&mB (Region.ready .any r.aQ.opsOf (dY r.aQ.opsOf.size zz)) [zz]&&jO ((dY r.aQ.opsOf.size zz).setIfInBounds zz true).toList (dY r.aQ.opsOf.size (zz+1)).toList&&(dY r.aQ.opsOf.size (zz+1)).getD st false)=true:=by kernel_rfl)
    (he:∀x,nz P n rs tb (c2 r.aQ.opsOf rs tb [] f ob) st zz r.σ ob x:=by intro x;exact⟨an,an,an,⟨an,an⟩⟩):bU P Q r a w:=by
  simp only [Bool.and_eq_true] at hb;exact S.Kb st _ rs (pk:=[]) (cl0:=[]) (FF0:=fun _=>I) (fun _ h=>h) (fun j h=>by cases h) (fun i j h=>by cases h) trivial A B C (fun x S G h _=>kj.one (K x S G h) D) hb.1.1 hb.1.2 hb.2 he
theorem ag.Jw {r:bL} {u:World} {N:ah} {d:Nat->Nat} {a:Act} {w:World} {Q:Exit->Act->World->Prop} (S:ag P n w0 M u N d r.σ a w) (st zz:Nat) {f:List (Nat×Ask×Value)} {ob:List (Nat×Bool×Bool)} (l:fe P u N f) (o:gd ob)
    (K:∀{A w' β'},ag P n w0 M u N β' ((c2 (w0:=w0) (M:=M) r.aQ.opsOf [] [] [] f ob).fin P n st zz (fun _=>undef) r.σ) A w'->wpOp P r.aQ.opsOf (fs (iZ P Q r .normal)) zz (kj P Q r st (zz+1)) A w')
    (hb:(r.aQ.JL&&P.follows .mixedOrders&&mz (w0:=w0) (M:=M) P n [] [] [] (c2 (w0:=w0) (M:=M) r.aQ.opsOf [] [] [] f ob) [] st zz r.σ)=true:=by kernel_rfl) (A:(Nat.blt zz r.aQ.opsOf.size&&mB (Region.ready .any r.aQ.opsOf (dY r.aQ.opsOf.size zz)) [zz]&&jO ((dY r.aQ.opsOf.size zz).setIfInBounds zz true).toList (dY r.aQ.opsOf.size (zz+1)).toList&&(dY r.aQ.opsOf.size (zz+1)).getD st false)=true:=by kernel_rfl)
    (he:nz (w0:=w0) (M:=M) P n [] [] (c2 (w0:=w0) (M:=M) r.aQ.opsOf [] [] [] f ob) st zz r.σ ob ():=by exact⟨an,an,an,⟨an,an⟩⟩):bU P Q r a w:=by
  simp only [Bool.and_eq_true] at hb;refine S.Kb st _ [] (pk:=[]) (cl0:=[]) (FF0:=fun _=>I) (fun _ h=>h) (fun j h=>by cases h) (fun i j h=>by cases h) trivial l o .nil (fun x B C h e=>?_) hb.1.1 hb.1.2 hb.2 fun _=>he;obtain⟨C,D⟩:=e rfl;rw [C,D] at B;exact kj.one (K B) A
theorem ag.I8 {r:bL} {u:World} {N:ah} {d:Nat->Nat} {σ:aX} {a:Act} {w:World} {Q:Exit->Act->World->Prop} {st zz:Nat} (S:ag P n w0 M u N d σ a w) (K:ag P n w0 M u N d (r.JG σ).σ a w->bU P Q (r.JG σ) a w) (aU:(Region.ready .any r.aQ.opsOf (dY r.aQ.opsOf.size zz)).isEmpty=true:=by kernel_rfl):kj P Q r st zz a w:=
  ⟨fun A=>a_.done (List.isEmpty_iff.1 aU) ⟨(K S).ok⟩ _⟩
theorem ag.JQ {r:bL} {u:World} {N:ah} {d:Nat->Nat} {σ:aX} {a:Act} {w:World} {Q:Exit->Act->World->Prop} {st f:Nat} (S:ag P n w0 M u N d σ a w) {l:List (Nat×Ask×Value)} {ob:List (Nat×Bool×Bool)} (o:fe P u N l) (q:gd ob)
    (K:∀{t w' β'},ag P n w0 M u N β' ((c2 (w0:=w0) (M:=M) r.aQ.opsOf [] [] [] l ob).to P n r.aQ.opsOf.size (fun _=>undef) (dY r.aQ.opsOf.size f) σ) t w'->bU P Q (r.JG ((c2 (w0:=w0) (M:=M) r.aQ.opsOf [] [] [] l ob).to P n r.aQ.opsOf.size (fun _=>undef) (dY r.aQ.opsOf.size f) σ)) t w')
    (hb:((dY r.aQ.opsOf.size f).getD st false&&rK (w0:=w0) (M:=M) [] [] [] (c2 (w0:=w0) (M:=M) r.aQ.opsOf [] [] [] l ob) [] st r.aQ.opsOf.size (dY r.aQ.opsOf.size f) 0 σ (r.aQ.opsOf.size-f)&&(Region.ready .any r.aQ.opsOf (dY r.aQ.opsOf.size r.aQ.opsOf.size)).isEmpty)=true:=by kernel_rfl) (he:r2 (w0:=w0) (M:=M) P n [] [] (c2 (w0:=w0) (M:=M) r.aQ.opsOf [] [] [] l ob) st (dY r.aQ.opsOf.size f) 0 σ (r.aQ.opsOf.size-f) [] ob ():=by exact⟨an,an⟩):kj P Q r st f a w:=by
  simp only [Bool.and_eq_true] at hb;refine⟨fun A=>a_.KB (C:=cn w0 M u N d []) _ _ _ _ hb.1.1 ?_⟩;refine z6 (g:=0) (m:=0) S rfl (fun h=>?_) (pk:=[]) (cl0:=[]) (FF0:=fun _=>I) (fun _ h=>h) (fun j h=>by cases h) (fun i j h=>by cases h) trivial o q .nil (fun x A B h e=>?_) hb.1.2 fun _=>he
  · rw [hb.1.1] at h;cases h
  · obtain⟨B,C⟩:=e rfl;rw [B,C] at A;exact a_.done (List.isEmpty_iff.1 hb.2) ⟨(K A).ok⟩ _
def pj (P:Program) (n:Nat) (ops:Array Oper) (ov:List (Nat×Bool)) (σ:aX) (eT:List Value):aX:=((iM P n ops ov 0 ops.toList σ eT).map (·.1)).getD σ
theorem ag.Jr {r:bL} {u:World} {N:ah} {d:Nat->Nat} {a:Act} {w:World} {Q:Exit->Act->World->Prop} (S:ag P n w0 M u N d r.σ a w) {claims:List (Ask×Value)} {ob:List (Nat×Bool×Bool)} (f:cm P u N claims) (l:gd ob)
    (K:∀{o q},ag P n w0 M u N d (pj P n r.aQ.opsOf (lp ob) r.σ (claims.map (·.2))) o q->bU P Q (r.JG (pj P n r.aQ.opsOf (lp ob) r.σ (claims.map (·.2)))) o q)
    (hb:(r.aQ.JL&&P.follows .mixedOrders&&Region.lexB .any r.aQ.opsOf)=true:=by kernel_rfl) (he:(iM P n r.aQ.opsOf (lp ob) 0 r.aQ.opsOf.toList r.σ (claims.map (·.2))).map (·.2)=some (claims,ob.map (·.2)):=by kernel_rfl):bU P Q r a w:=by
  simp only [Bool.and_eq_true] at hb;refine h_ ?_ hb.1.1;rw [Option.map_eq_some_iff] at he;obtain⟨A,h1,ab⟩:=he;have B:pj P n r.aQ.opsOf (lp ob) r.σ (claims.map (·.2))=A.1:=by unfold pj;rw [h1];rfl
  have C:fc A.2.2:=by
    rw [ab];clear h1 ab B K
    induction ob with
    |nil=>trivial
    |cons x t D=>exact⟨l.1,D l.2⟩
  have D:=pt P n r.aQ.opsOf (lp ob) _ _ _ _ _ h1 C;rw [show A.2.1=claims by rw [ab]] at D;rw [B] at K;exact S.JP f hb.1.2 hb.2 D fun o q F=>⟨(K F).ok⟩
end
end Go.Proofs.YtkggcdhigchepaaGreat
namespace Go.Proofs.YtkggcdhigchepaaGreat
open Go
theorem C0 (d:World) (x:Int) (f:0<=x) (l:x<=9223372036854775807):Calls Tryz.prog 334 [.int .u64 x].toArray d (fun e o=>e= .returned (O (jg x))/\aW I d o):=
  (Go.Proofs.YtkggcdhigchepaaGreatBits.bits_Len x d f V).mono fun e o ⟨h1,ab⟩=>⟨h1,ab▸aW.refl _ _⟩
end Go.Proofs.YtkggcdhigchepaaGreat
