/- Lemmas, plain functions of the program, and what they answer. No condition. -/
import Derived.Test.YtopadgleejacdabGreatMD
namespace Go.Proofs.YtopadgleejacdabGreat
set_option linter.unusedVariables false
set_option linter.unusedSimpArgs false
open Go Go.VL
theorem ZM (j:bN):Cx j=qt j:=by unfold Cx qt;simp only[aaz,ZK]
theorem Ps (j:bN)(h:j.hs.size<=maxLen): ∃r,qt j=some r:=by
 obtain⟨r,ai⟩:=Zb _ h;unfold qt;simp only[ai,rX,dC,dB]
 repeat' split
 all_goals exact⟨_,rfl⟩
theorem Yo (s:cv)(n:ByteArray):B5 s n=wH s n:=by
 have h:HB s.bP n (len_ bw s.bP) 0=BS n s.bP (len_ bw s.bP) 0:=by unfold HB BS;congr 1
 unfold B5 wH E2;rw[h]
 cases BS n s.bP (len_ bw s.bP) 0 with
 | none=>rfl
 | some r=>cases r<;>rfl
theorem OJ (s:cv)(n:ByteArray)(h:s.bP.length<=maxLen): ∃r,wH s n=some r:=by
 have hm:=Ak
 obtain⟨r,h1,-⟩:=jz (f:=fun w=>y0 n s.bP (len_ bw s.bP) w) (fun i=>0<=i/\i<=s.bP.length) (fun i=>(s.bP.length-i).toNat) (fun _=>True) (fun i ab=>by
  obtain⟨h0,h1⟩:=ab;by_cases o:i<(s.bP.length:Int)
  ·have hw:R (i+1)=i+1:=ch (by omega) (by omega)
   obtain⟨x,U⟩ : ∃x,s.bP[i.toNat]? = some x:=⟨_,dx (by omega)⟩;unfold y0;simp only[ff,o,h0,hw,U,decide_true,if_true,and_self,dC,dB];by_cases e:(x.hs.toList == n.toList)=true
   ·exact .inr ⟨_,by rw[dw e],trivial⟩
   exact .inl ⟨i+1,by rw[dA e],by omega,by omega⟩
  exact .inr ⟨.inl (),by simp[y0,ff,o],trivial⟩) 0 (by omega)
 have cF:BS n s.bP (len_ bw s.bP) 0=some r:=h1;unfold wH;rw[cF]
 cases r with
 | inl a=>exact⟨_,rfl⟩
 | inr a=>exact⟨_,rfl⟩
theorem OK (s:cv):H4 s.bP (len_ bw s.bP) s.bh 0=tB s.bP (len_ bw s.bP) s.bh 0:=by unfold H4 tB;congr 1;funext w;unfold E5 sG;simp only[ZM,Yo]
theorem Ie (s:cv)(i0:mv s): ∃r,tB s.bP (len_ bw s.bP) s.bh 0=some r:=by
 have hm:=Ak;obtain⟨⟨gU,h7⟩,-⟩:=i0
 obtain⟨r,h1,-⟩:=jz (f:=fun w=>sG s.bP (len_ bw s.bP) s.bh w) (fun i=>0<=i/\i<=s.bP.length) (fun i=>(s.bP.length-i).toNat) (fun _=>True) (fun i ab=>by
  obtain⟨h0,h1⟩:=ab;by_cases o:i<(s.bP.length:Int)
  ·have hw:R (i+1)=i+1:=ch (by omega) (by omega)
   obtain⟨x,U⟩ : ∃x,s.bP[i.toNat]? = some x:=⟨_,dx (by omega)⟩;obtain⟨p,ae⟩:=Ps x (h7 x (dH U)).1;obtain⟨q,a1⟩:=OJ ⟨s.bP,s.bh⟩ x.hs gU;unfold sG;simp only[ff,o,h0,hw,U,ae,a1,decide_true,if_true,and_self,dC,dB];by_cases e:p=true
   ·rw[dw e]
    by_cases aD:(q != i)=true
    ·exact .inr ⟨_,by rw[dw aD],trivial⟩
    exact .inl ⟨i+1,by rw[dA aD],by omega,by omega⟩
   exact .inr ⟨_,by rw[dA e],trivial⟩
  exact .inr ⟨.inl (),by simp[sG,ff,o],trivial⟩) 0 (by omega)
 exact⟨r,h1⟩
def qC (hz:ail)(m:b1):Bool :=
 decide (0<=m.dq/\m.dq<hz.length/\0<=m.d4/\m.d4<hz.length/\1<=m.gy/\m.gy<=3) &&
 match hz[m.dq.toNat]?,hz[m.d4.toNat]? with
 | some a,some b=> !(a.ga == b.ga && a.f5 == b.f5) && !(a.hb && b.hb)
 | _,_=>false
theorem FA (s:cv)(m:b1):BH s m=some (qC s.bP m):=by
 unfold BH qC;simp only[ff];by_cases h1:m.dq<0
 ·simp[h1];omega
 by_cases o:(s.bP.length:Int)<=m.dq
 ·simp[h1,o];omega
 by_cases aa:m.d4<0
 ·simp[h1,o,aa];omega
 by_cases ao:(s.bP.length:Int)<=m.d4
 ·simp[h1,o,aa,ao];omega
 by_cases aC:m.gy<1
 ·simp[h1,o,aa,ao,aC];omega
 by_cases aS:3<m.gy
 ·simp[h1,o,aa,ao,aC,aS];omega
 obtain⟨x,U⟩ : ∃x,s.bP[m.dq.toNat]? = some x:=⟨_,dx (by omega)⟩;obtain⟨y,aR⟩ : ∃y,s.bP[m.d4.toNat]? = some y:=⟨_,dx (by omega)⟩;have bl:0<=m.dq/\m.dq<s.bP.length:=by omega
 have b8:0<=m.d4/\m.d4<s.bP.length:=by omega
 have jI:0<=m.dq/\m.dq<s.bP.length/\0<=m.d4/\m.d4<s.bP.length/\1<=m.gy/\m.gy<=3:=by omega
 rw[decide_eq_false h1,decide_eq_false o,decide_eq_false aa,decide_eq_false ao,decide_eq_false aC,decide_eq_false aS,decide_eq_true jI,dw bl,U];simp only[ah2,if_false,dC,dB,Bool.true_and];rw[dw b8,aR];simp only[dB];by_cases e1:x.ga=y.ga<;>by_cases aD:x.f5=y.f5<;>by_cases Br:x.hb=true<;>by_cases EI:y.hb=true<;>simp[e1,aD,Br,EI]
theorem Pa (hz:ail)(ee:aik)(au:hz.length<=6)(GK:ee.length<=8)(i:Int):
 BG (R (len_ bw hz-1)) ee (len_ bB ee) hz i =
 (oY ee hz ee (len_ bB ee) i).map (Sum.map id (Sum.map id fun _=>())):=by
 have hw:R ((hz.length:Nat)-1)=(hz.length:Nat)-1:=ch (by omega) (by omega);unfold BG oY wB;simp only[ff,hw,FA,rX,dC,dB];by_cases h1:i<(ee.length:Int);rotate_left
 ·simp[h1]
 by_cases h0:0<=i;rotate_left
 ·simp[h1,h0]
 obtain⟨m,hm⟩ : ∃x,ee[i.toNat]? = some x:=⟨_,dx (by omega)⟩;simp only[h1,h0,hm,decide_true,if_true,and_self,dB];unfold qC;by_cases hA:0<=m.dq/\m.dq<=(hz.length:Int)-1;rotate_left
 ·have jI : ¬(0<=m.dq/\m.dq<hz.length/\0<=m.d4/\m.d4<hz.length/\1<=m.gy/\m.gy<=3):=(by omega);rw[decide_eq_false hA,decide_eq_false jI];simp
 by_cases gP:0<=m.d4/\m.d4<=(hz.length:Int)-1;rotate_left
 ·have jI : ¬(0<=m.dq/\m.dq<hz.length/\0<=m.d4/\m.d4<hz.length/\1<=m.gy/\m.gy<=3):=(by omega);rw[decide_eq_true hA,decide_eq_false gP,decide_eq_false jI];simp
 by_cases h8:1<=m.gy/\m.gy<=3
 ·obtain⟨x,U⟩ : ∃x,hz[m.dq.toNat]? = some x:=⟨_,dx (by omega)⟩;obtain⟨y,aR⟩ : ∃y,hz[m.d4.toNat]? = some y:=⟨_,dx (by omega)⟩;have bl:0<=m.dq/\m.dq<hz.length:=(by omega);have b8:0<=m.d4/\m.d4<hz.length:=(by omega);have jI:0<=m.dq/\m.dq<hz.length/\0<=m.d4/\m.d4<hz.length/\1<=m.gy/\m.gy<=3:=(by omega);rw[decide_eq_true hA,decide_eq_true gP,decide_eq_true h8,decide_eq_true jI];simp only[if_true,dB,Bool.true_and];rw[dw bl,U];simp only[dB];rw[dw b8,aR];simp only[dB];by_cases e1:x.ga=y.ga<;>by_cases aD:x.f5=y.f5<;>by_cases Br:x.hb=true<;>by_cases EI:y.hb=true<;>simp[e1,aD,Br,EI]
 have jI : ¬(0<=m.dq/\m.dq<hz.length/\0<=m.d4/\m.d4<hz.length/\1<=m.gy/\m.gy<=3):=by omega
 rw[decide_eq_true hA,decide_eq_true gP,decide_eq_false h8,decide_eq_false jI];simp
theorem NN (hz:ail)(ee:aik)(GK:ee.length<=8): ∃r,yF ee hz ee (len_ bB ee) 0=some r/\ ∀k,r = .inr k->0<=k:=by
 exact jz (f:=fun w=>oY ee hz ee (len_ bB ee) w) (fun i=>0<=i/\i<=ee.length) (fun i=>(ee.length-i).toNat) (fun r=> ∀k,r = .inr k->0<=k) (fun i ab=>by
  obtain⟨h0,h1⟩:=ab;by_cases o:i<(ee.length:Int)
  ·have hw:R (i+1)=i+1:=ch (by omega) (by omega)
   obtain⟨x,U⟩ : ∃x,ee[i.toNat]? = some x:=⟨_,dx (by omega)⟩;unfold oY wB;simp only[ff,o,h0,hw,U,FA,decide_true,if_true,and_self,dC,dB];by_cases e:(!qC hz x)=true
   ·exact .inr ⟨_,by rw[dw e],by intro k aZ;simp at aZ;omega⟩
   exact .inl ⟨i+1,by rw[dA e],by omega,by omega⟩
  exact .inr ⟨.inl (),by simp[oY,ff,o],by intro k aZ;simp at aZ⟩) 0 (by omega)
theorem Ot (s:cv)(i0:mv s): ∃r,nZ s=some r/\uY s=some r:=by
 unfold nZ uY;by_cases h1:6<(s.bP.length:Int)
 ·exact⟨false,by simp[ff,h1],by simp[ff,h1]⟩
 by_cases o:8<(s.bh.length:Int)
 ·exact⟨false,by simp[ff,h1,o],by simp[ff,h1,o]⟩
 obtain⟨r,ai⟩:=Ie s i0;rw[OK,ai];obtain⟨q,a1,mF⟩:=NN s.bP s.bh (by omega)
 have Ly:HZ (R (len_ bw s.bP-1)) s.bh (len_ bB s.bh) s.bP 0=some (Sum.map id (fun _=>()) q) :=
  QT (f:=fun w=>oY s.bh s.bP s.bh (len_ bB s.bh) w) (Sum.map id fun _=>()) (fun _=>True) (fun _ _ _ _=>trivial)
   (fun i _=>Pa s.bP s.bh (by omega) (by omega) i) 0 q a1 trivial
 simp only[BA,BC,a1,Ly,dC,dB];have d1:decide ((6:Int)<len_ bw s.bP)=false:=by rw[ff];exact decide_eq_false h1
 have d2:decide ((8:Int)<len_ bB s.bh)=false:=by rw[ff];exact decide_eq_false o
 rw[d1,d2];simp only[ah2,if_false]
 cases r with
 | inr a=>exact⟨false,rfl,rfl⟩
 | inl a =>
  cases q with
  | inl b=>exact⟨true,rfl,by simp⟩
  | inr k =>
   have:=mF k rfl;exact⟨false,rfl,by simp[this]⟩
theorem X8 (j:bN)(h:qt j=some true): -50<=j.ga/\j.ga<=50/\ -50<=j.f5/\j.f5<=50:=by
 unfold qt at h
 cases aX:u4 j.hs with
 | none=>simp[aX] at h
 | some r =>
  simp only[aX,rX,dC,dB] at h
  cases r with
  | false=>simp at h
  | true =>
   by_cases a : -50<=j.ga/\j.ga<=50
   ·by_cases b : -50<=j.f5/\j.f5<=50
    ·omega
    simp[a,b] at h
   simp[a] at h
theorem aaA (s:cv)(i0:mv s)(h:tB s.bP (len_ bw s.bP) s.bh 0=some (.inl ())): ∀(n:Nat) j,s.bP[n]? = some j->qt j=some true:=by
 have hm:=Ak;obtain⟨⟨gU,h7⟩,-⟩:=i0
 obtain⟨r,h1,o⟩:=jz (f:=fun w=>sG s.bP (len_ bw s.bP) s.bh w) (fun i=>0<=i/\i<=s.bP.length/\ ∀(n:Nat) j,(n:Int)<i->s.bP[n]? = some j->qt j=some true) (fun i=>(s.bP.length-i).toNat)
  (fun r=>r = .inl ()-> ∀(n:Nat) j,s.bP[n]? = some j->qt j=some true) (fun i ab=>by
  obtain⟨h0,h1,aa⟩:=ab;by_cases o:i<(s.bP.length:Int)
  ·have hw:R (i+1)=i+1:=ch (by omega) (by omega)
   obtain⟨x,U⟩ : ∃x,s.bP[i.toNat]? = some x:=⟨_,dx (by omega)⟩;obtain⟨p,ae⟩:=Ps x (h7 x (dH U)).1;obtain⟨q,a1⟩:=OJ ⟨s.bP,s.bh⟩ x.hs gU;unfold sG;simp only[ff,o,h0,hw,U,ae,a1,decide_true,if_true,and_self,dC,dB];by_cases e:p=true
   ·rw[dw e]
    by_cases aD:(q != i)=true
    ·exact .inr ⟨_,by rw[dw aD],by simp⟩
    refine .inl ⟨i+1,by rw[dA aD],⟨by omega,by omega,fun n j aX au=> ?_⟩,by omega⟩;by_cases c:(n:Int)<i
    ·exact aa n j c au
    have:n=i.toNat:=(by omega);subst this;rw[U] at au;obtain rfl:=dJ au;rw[ae,e]
   exact .inr ⟨_,by rw[dA e],by simp⟩
  refine .inr ⟨.inl (),by simp[sG,ff,o],fun _ n j au=>aa n j (by have:=gi au;omega) au⟩) 0 ⟨by omega,by omega,fun n j aX=>by omega⟩
 have rC:tB s.bP (len_ bw s.bP) s.bh 0=some r:=h1;rw[h] at rC;exact o (dJ rC).symm
theorem ZN (hz:ail)(ee:aik)(GK:ee.length<=8)(h:yF ee hz ee (len_ bB ee) 0=some (.inl ())): ∀(n:Nat) m,ee[n]? = some m->qC hz m=true:=by
 obtain⟨r,h1,o⟩:=jz (f:=fun w=>oY ee hz ee (len_ bB ee) w) (fun i=>0<=i/\i<=ee.length/\ ∀(n:Nat) m,(n:Int)<i->ee[n]? = some m->qC hz m=true) (fun i=>(ee.length-i).toNat)
  (fun r=>r = .inl ()-> ∀(n:Nat) m,ee[n]? = some m->qC hz m=true) (fun i ab=>by
  obtain⟨h0,h1,aa⟩:=ab;by_cases o:i<(ee.length:Int)
  ·have hw:R (i+1)=i+1:=ch (by omega) (by omega)
   obtain⟨x,U⟩ : ∃x,ee[i.toNat]? = some x:=⟨_,dx (by omega)⟩;unfold oY wB;simp only[ff,o,h0,hw,U,FA,decide_true,if_true,and_self,dC,dB];by_cases e:(!qC hz x)=true
   ·exact .inr ⟨_,by rw[dw e],by simp⟩
   refine .inl ⟨i+1,by rw[dA e],⟨by omega,by omega,fun n j aX au=> ?_⟩,by omega⟩;by_cases c:(n:Int)<i
   ·exact aa n j c au
   have:n=i.toNat:=(by omega);subst this;rw[U] at au;obtain rfl:=dJ au;simpa using e
  refine .inr ⟨.inl (),by simp[oY,ff,o],fun _ n j au=>aa n j (by have:=gi au;omega) au⟩) 0 ⟨by omega,by omega,fun n j aX=>by omega⟩
 have rC:yF ee hz ee (len_ bB ee) 0=some r:=h1;rw[h] at rC;exact o (dJ rC).symm
theorem wF (s:cv)(i0:mv s)(h:nZ s=some true):
 (∀(n:Nat) j,s.bP[n]? = some j->qt j=some true)/\(∀(n:Nat) m,s.bh[n]? = some m->qC s.bP m=true)/\s.bP.length<=6/\s.bh.length<=8:=by
 obtain⟨p,p1,hX⟩:=Ot s i0;rw[h] at p1;obtain rfl:=dJ p1;unfold uY at hX;by_cases h1:6<(s.bP.length:Int)
 ·simp[ff,h1] at hX
 by_cases o:8<(s.bh.length:Int)
 ·simp[ff,h1,o] at hX
 obtain⟨r,ai⟩:=Ie s i0;rw[OK,ai] at hX;obtain⟨q,a1,mF⟩:=NN s.bP s.bh (by omega);have d1:decide ((6:Int)<len_ bw s.bP)=false:=by rw[ff];exact decide_eq_false h1
 have d2:decide ((8:Int)<len_ bB s.bh)=false:=by rw[ff];exact decide_eq_false o
 rw[d1,d2] at hX;simp only[BA,BC,a1,ah2,if_false,dC,dB] at hX
 cases r with
 | inr a=>simp at hX
 | inl a =>
  cases q with
  | inr k =>
   have:=mF k rfl;simp[this] at hX
  | inl b=>exact⟨aaA s i0 ai,ZN s.bP s.bh (by omega) a1,by omega,by omega⟩
def oR (s:cv):Prop:=(∀(n:Nat) j,s.bP[n]? = some j-> -50<=j.ga/\j.ga<=50/\ -50<=j.f5/\j.f5<=50)/\(∀(n:Nat) m,s.bh[n]? = some m->qC s.bP m=true)/\s.bP.length<=6/\s.bh.length<=8
theorem XS (s:cv)(i0:mv s)(h:nZ s=some true):oR s:=by obtain⟨f1,f2,f3,f4⟩:=wF s i0 h;exact⟨fun n j au=>X8 j (f1 n j au),f2,f3,f4⟩
theorem ab8 (s:cv)(h:oR s)(k:Int)(h0:0<=k)(h1:k<s.bh.length):
 ∃x y,sH s k=some (x,y)/\(-100<=x/\x<=100)/\(-100<=y/\y<=100):=by
 obtain⟨f1,f2,f3,f4⟩:=h;obtain⟨m,hm⟩ : ∃x,s.bh[k.toNat]? = some x:=⟨_,dx (by omega)⟩;have x8:=f2 _ m hm;unfold qC at x8;simp only[ahU,decide_eq_true_eq] at x8;obtain⟨⟨g1,g2,g3,g4,-⟩,-⟩:=x8;obtain⟨a,bC⟩ : ∃x,s.bP[m.dq.toNat]? = some x:=⟨_,dx (by omega)⟩;obtain⟨b,aL⟩ : ∃x,s.bP[m.d4.toNat]? = some x:=⟨_,dx (by omega)⟩;have afF:=f1 _ a bC;have afG:=f1 _ b aL;have e1:R (b.ga-a.ga)=b.ga-a.ga:=ch (by omega) (by omega);have aD:R (b.f5-a.f5)=b.f5-a.f5:=ch (by omega) (by omega);have cW:0<=k/\k<s.bh.length:=⟨h0,h1⟩;have bl:0<=m.dq/\m.dq<s.bP.length:=⟨g1,g2⟩;have b8:0<=m.d4/\m.d4<s.bP.length:=⟨g3,g4⟩;refine⟨b.ga-a.ga,b.f5-a.f5,?_,by omega,by omega⟩;unfold sH;simp only[dw cW,hm,dw bl,dw b8,bC,aL,dC,dB,e1,aD]
theorem ab9 (s:cv)(h:oR s)(k:Int)(h0:0<=k)(h1:k<s.bh.length){v:Int×Int}(bb:sH s k=some v):B7 s k=some v:=by
 obtain⟨f1,f2,f3,f4⟩:=h;obtain⟨m,hm⟩ : ∃x,s.bh[k.toNat]? = some x:=⟨_,dx (by omega)⟩;have x8:=f2 _ m hm;unfold qC at x8;simp only[ahU,decide_eq_true_eq] at x8;obtain⟨⟨g1,g2,g3,g4,-⟩,-⟩:=x8;obtain⟨a,bC⟩ : ∃x,s.bP[m.dq.toNat]? = some x:=⟨_,dx (by omega)⟩;obtain⟨b,aL⟩ : ∃x,s.bP[m.d4.toNat]? = some x:=⟨_,dx (by omega)⟩;have afF:=f1 _ a bC;have afG:=f1 _ b aL;have e1:R (b.ga-a.ga)=b.ga-a.ga:=ch (by omega) (by omega);have aD:R (b.f5-a.f5)=b.f5-a.f5:=ch (by omega) (by omega);have cW:0<=k/\k<s.bh.length:=⟨h0,h1⟩;have bl:0<=m.dq/\m.dq<s.bP.length:=⟨g1,g2⟩;have b8:0<=m.d4/\m.d4<s.bP.length:=⟨g3,g4⟩;have uR:sH s k=some (b.ga-a.ga,b.f5-a.f5):=by unfold sH;simp only[dw cW,hm,dw bl,dw b8,bC,aL,dC,dB,e1,aD]
 rw[bb] at uR;obtain rfl:=dJ uR;unfold B7;simp only[dw cW,hm,dw bl,dw b8,bC,aL,dC,dB,e1,aD]
def ty (l:ar)(n:Nat)(x:Int):Prop:=0<=x/\x<1000000000/\(∀z,l[n]? = some z->x=z)/\(l[n]? = none->x=0)
theorem xB {l:ar}(h:cu l){n:Nat}(aX:n<l.length):ty l n l[n]:=by have U:=dx aX;have h0:=h.get U;exact⟨h0.1,h0.2,fun z cj=>by rw[U] at cj;exact dJ cj,fun h=>by rw[U] at h;simp at h⟩
theorem AL {l:ar}{n:Nat}(aX:¬n<l.length):ty l n 0:=by
 have U:l[n]? = none:=by simp;omega
 exact⟨by omega,by omega,fun z cj=>by rw[U] at cj;simp at cj,fun _=>rfl⟩
theorem ty.take {l:ar}{n:Nat}{x:Int}(h:ty l n x):V (l.take (n+1))=V (l.take n)+B n*x:=Q0 h.2.2.1 h.2.2.2
theorem abv {a b row:ar}{carry:Int}{n:Nat}(bC:cu a)(aL:cu b)(a8:carry=0\/carry=1)(so:a.length<=1000000)(Lz:b.length<=1000000)(ai:row.length<=1000001)(GQ:n<=1000001)(aX:n<a.length\/n<b.length\/carry=1):
 ∃x y,ty a n x/\ty b n y/\wx a b carry n row=some (.inl ((carry+x+y) / 1000000000,((n+1:Nat):Int),row++[(carry+x+y) % 1000000000])):=by
 have nm:0<=carry/\carry<=1:=by omega
 unfold wx;simp only[gj];by_cases h1:n<a.length
 ·have hA:=xB bC h1
  have U:=dx h1;rw[dw (by simp;omega),dw (by omega),dy,U];simp only[dC,dB];by_cases o:n<b.length
  ·have gP:=xB aL o;have aR:=dx o;have gU:=hA.1;have h7:=hA.2.1;have jo:=gP.1;have ks:=gP.2.1;refine⟨a[n],b[n],hA,gP,?_⟩;rw[dw (by simp;omega),dw (by omega),aR];simp only[dB];rw[ch (x:=carry+a[n]) (by omega) (by omega),ch (x:=carry+a[n]+b[n]) (by omega) (by omega),q5 (by omega),nX (by omega),ch (by omega) (by omega),oE (n:=n) (by omega),dw (by simp;omega)]
  have gU:=hA.1;have h7:=hA.2.1;refine⟨a[n],0,hA,AL o,?_⟩;rw[dA (by simp;omega),ch (x:=carry+a[n]) (by omega) (by omega),q5 (by omega),nX (by omega),ch (by omega) (by omega),oE (n:=n) (by omega),dw (by simp;omega),Int.add_zero]
 rw[dA (by simp;omega)];by_cases o:n<b.length
 ·have gP:=xB aL o;have aR:=dx o;have jo:=gP.1;have ks:=gP.2.1;refine⟨0,b[n],AL h1,gP,?_⟩;rw[dw (by simp;omega),dw (by omega),dy,aR];simp only[dC,dB];rw[ch (x:=carry+b[n]) (by omega) (by omega),q5 (by omega),nX (by omega),ch (by omega) (by omega),oE (n:=n) (by omega),dw (by simp;omega),Int.add_zero]
 refine⟨0,0,AL h1,AL o,?_⟩;rw[dA (by simp;omega),dw (by simp;omega),q5 (by omega),nX (by omega),ch (by omega) (by omega),oE (n:=n) (by omega),dw (by simp;omega),Int.add_zero,Int.add_zero]
theorem abw {a b:ar}(bC:cu a)(aL:cu b)(so:a.length<=900000)(Lz:b.length<=900000): ∃r,z8 a b=some r/\cu r/\V r=V a+V b/\r.length<=a.length+b.length+1:=by
 obtain⟨r,ai,h1,o,aa⟩:=jz (f:=fun w:Int×Int×ar=>wx a b w.1 w.2.1 w.2.2) (eS:=fun w=> ∃n:Nat,w.2.1=n/\w.2.2.length=n/\(w.1=0\/w.1=1)/\cu w.2.2/\V w.2.2+w.1*B n=V (a.take n)+V (b.take n)/\(n<=a.length\/n<=b.length\/w.1=0)/\n<=a.length+b.length+1) (m:=fun w=>(a.length+b.length+2-w.2.1.toNat))
  (fun r=>cu r/\V r=V a+V b/\r.length<=a.length+b.length+1) (by
    rintro⟨carry,ii,row⟩ ⟨n,e1,aD,bH,cX,di,d5,eP⟩;simp only at e1 aD bH cX di d5;subst e1;by_cases aX:n<a.length\/n<b.length\/carry=1
    ·obtain⟨x,y,U,aR,qi⟩:=abv (row:=row) bC aL bH (by omega) (by omega) (by omega) (by omega) aX
     have x0:=U.1;have x1:=U.2.1;have Ul:=aR.1;have nt:=aR.2.1;have Lt:n<=a.length+b.length:=(by omega);refine .inl ⟨_,qi,⟨n+1,rfl,by simp[aD],by simp only;omega,cX.append (cu.cons (by omega) cu.nil),?_,?_,by omega⟩,by simp only;omega⟩
     ·simp only;rw[w9,aD,mY,lP,Ds,U.take,aR.take];have:=Int.mul_ediv_add_emod (carry+x+y) 1000000000;generalize (carry+x+y) / 1000000000=u at *;generalize (carry+x+y) % 1000000000=t at *;have cb:t=carry+x+y-1000000000*u:=(by omega);rw[cb];grind
     simp only;by_cases h:n+1<=a.length\/n+1<=b.length
     ·omega
     ·
      have ahC : ¬n<a.length:=(by omega);have ahD : ¬n<b.length:=(by omega);have hY:x=0:=U.2.2.2 (by simp;omega);have ja:y=0:=aR.2.2.2 (by simp;omega);omega
    refine .inr ⟨row,?_,cX,?_,by omega⟩
    ·unfold wx;simp only[gj];rw[dA (by simp;omega),dA (by simp;omega),dA (by simp;omega)]
    have a8:carry=0:=(by omega);rw[a8,dQ (by omega),dQ (by omega)] at di;omega) (0,0,[]) ⟨0,rfl,rfl,.inl rfl,cu.nil,by simp[V],by omega,by omega⟩
 unfold z8 OP;rw[ai];exact⟨r,rfl,h1,o,aa⟩
theorem aaB {neg:Bool}{r:ar}(ai:cu r)(aO:r.length<=5000000)(rO:V r<B 60):iD neg r=some (hD (ev neg (V r))):=by
 have h0:=nx ai;have:iD neg r=iD neg (L (V r)):=by unfold iD z6;have hlen:=(jD h0).2 rO;rw[sO ai aO,sO (hK _) (by omega),ey h0]
 rw[this,rh h0 rO]
theorem aaC {a b row:ar}{carry:Int}{n:Nat}(bC:cu a)(aL:cu b)(a8:carry=0\/carry=1)(so:a.length<=1000000)(aX:n<a.length)(ai:n<row.length):
 ∃x y,ty a n x/\ty b n y/\zR a b a.length carry n row=some (.inl ((carry+x+y) / 1000000000,((n+1:Nat):Int),row.set n ((carry+x+y) % 1000000000))):=by
 have nm:0<=carry/\carry<=1:=by omega
 have hA:=xB bC aX;have U:=dx aX;have gU:=hA.1;have h7:=hA.2.1;unfold zR;simp only[gj];rw[dw (by simp;omega),dw (by omega),dy,U];simp only[dC,dB];by_cases o:n<b.length
 ·have gP:=xB aL o;have aR:=dx o;have jo:=gP.1;have ks:=gP.2.1;refine⟨a[n],b[n],hA,gP,?_⟩;rw[dw (by simp;omega),dw (by omega),aR];simp only[dB];rw[dw (by omega),dw (by omega),ch (x:=a[n]+carry) (by omega) (by omega),ch (x:=a[n]+carry+b[n]) (by omega) (by omega),q5 (by omega),nX (by omega),ch (by omega) (by omega),oE (n:=n) (by omega),dF,Int.add_comm a[n] carry]
 refine⟨a[n],0,hA,AL o,?_⟩;rw[dA (by simp;omega),dw (by omega),dw (by omega),ch (x:=a[n]+carry) (by omega) (by omega),q5 (by omega),nX (by omega),ch (by omega) (by omega),oE (n:=n) (by omega),dF,Int.add_zero,Int.add_comm a[n] carry]
theorem aaD {a b:ar}(bC:cu a)(aL:cu b)(so:a.length<=900000)(vN:b.length<=a.length):
 ∃r,Fv a b a.length 0 0 (List.replicate (a.length+1) 0)=some r/\(r.1=0\/r.1=1)/\cu r.2/\r.2.length=a.length+1/\V r.2+r.1*B a.length=V a+V b/\r.2[a.length]? = some 0:=by
 refine jz (eS:=fun w:Int×Int×ar=> ∃n:Nat,w.2.1=n/\n<=a.length/\(w.1=0\/w.1=1)/\cu w.2.2/\w.2.2.length=a.length+1/\V w.2.2+w.1*B n=V (a.take n)+V (b.take n)/\ ∀j,n<=j->j<a.length+1->w.2.2[j]? = some 0) (m:=fun w=>a.length-w.2.1.toNat) _ ?_ _ ⟨0,rfl,by omega,.inl rfl,cu.K6 _,by simp,by simp[V,Kb],fun j _ h=>by simp[List.getElem?_replicate];omega⟩;rintro⟨carry,ii,row⟩ ⟨n,e1,aD,bH,cX,di,d5,eP⟩;simp only at e1 bH cX di d5 eP ⊢;subst e1;by_cases aX:n=a.length
 ·subst aX;refine .inr ⟨(carry,row),by simp[zR],bH,cX,di,?_,eP _ (dG _) (by omega)⟩;rw[List.take_length,dQ vN] at d5;exact d5
 obtain⟨x,y,U,aR,qi⟩:=aaC (row:=row) (n:=n) bC aL bH (by omega) (by omega) (by omega);have x0:=U.1;have x1:=U.2.1;have Ul:=aR.1;have nt:=aR.2.1;refine .inl ⟨_,qi,⟨n+1,rfl,by omega,by simp only;omega,cX.set (by omega),by simpa using di,?_,fun j h1 o=> ?_⟩,by simp only;omega⟩
 ·simp only;rw[s5 (eP n (dG _) (by omega)),mY,U.take,aR.take];have:=Int.mul_ediv_add_emod (carry+x+y) 1000000000;generalize (carry+x+y) / 1000000000=u at *;generalize (carry+x+y) % 1000000000=t at *;have cb:t=carry+x+y-1000000000*u:=(by omega);rw[cb];grind
 simp only;rw[List.getElem?_set_ne (by omega)];exact eP j (by omega) o
theorem QA {a b:ar}(bC:cu a)(aL:cu b)(so:a.length<=900000)(vN:b.length<=a.length):
 (if 0<=(R ((len_ eI a)+(1:Int)))/\(8:Int)*(R ((len_ eI a)+(1:Int)))<=281474976710656/\(R ((len_ eI a)+(1:Int)))<9223372036854775808 then
   (Fv a b (len_ eI a) 0 0 (List.replicate (R ((len_ eI a)+(1:Int))).toNat 0:ar)).bind fun bj =>
   if 0<=(len_ eI a)/\(len_ eI a)<(bj.2.length:Nat) then
   if (0+(len_ eI a).toNat)<bj.2.length then
   (rf (bj.2.set (0+(len_ eI a).toNat) bj.1)).bind fun bG=>some bG
   else none
   else none
   else none)=some (L (V a+V b)):=by
 obtain⟨r,ai,h1,o,aa,ao,aC⟩:=aaD bC aL so vN;rw[gj,oE (by omega),dw (by omega),dy,ai,dB,dw (by omega),dy,dF,dw (by omega)];have DW:cu (r.2.set a.length r.1):=o.set (by omega);rw[AA DW (by simp;omega),s5 aC,dB];congr 2;rw[<- ao];grind
theorem aca {a b:ar}(bC:cu a)(aL:cu b)(so:a.length<=900000)(Lz:b.length<=900000):Ai a b=some (L (V a+V b)):=by
 unfold Ai;by_cases h:a.length<b.length
 ·rw[dw (by rw[gj,gj];simpa using h)];have:=QA aL bC Lz (by omega);rw[Int.add_comm (V a)];exact this
 rw[dA (by rw[gj,gj];simpa using h)];exact QA bC aL so (by omega)
theorem ZO {a b row:ar}{less:Int}{n:Nat}(bC:cu a)(aL:cu b)(aO:less=0\/less=1)(so:a.length<=1000000)(aX:n<a.length)(ai:n<row.length):
 ∃x y,ty a n x/\ty b n y/\zO b a a.length less n row=some (.inl (if x-less-y<0 then (1,((n+1:Nat):Int),row.set n (x-less-y+1000000000)) else (0,((n+1:Nat):Int),row.set n (x-less-y)))):=by
 have nm:0<=less/\less<=1:=by omega
 have hA:=xB bC aX;have U:=dx aX;have gU:=hA.1;have h7:=hA.2.1;unfold zO;simp only[gj];rw[dw (by simp;omega),dw (by omega),dy,U];simp only[dC,dB];by_cases o:n<b.length
 ·have gP:=xB aL o
  have aR:=dx o;have jo:=gP.1;have ks:=gP.2.1;refine⟨a[n],b[n],hA,gP,?_⟩;rw[dw (by simp;omega),dw (by omega),aR];simp only[dB];rw[ch (x:=a[n]-less) (by omega) (by omega),ch (x:=a[n]-less-b[n]) (by omega) (by omega),oE (n:=n) (by omega),ch (x:=a[n]-less-b[n]+1000000000) (by omega) (by omega),dF];by_cases h:a[n]-less-b[n]<0
  ·rw[dw (by simpa using h),dw h,dw (by omega),dw (by omega)]
  rw[dA (by simpa using h),dA h,dw (by omega),dw (by omega)]
 refine⟨a[n],0,hA,AL o,?_⟩;rw[dA (by simp;omega),ch (x:=a[n]-less) (by omega) (by omega),oE (n:=n) (by omega),ch (x:=a[n]-less+1000000000) (by omega) (by omega),dF,Int.sub_zero];by_cases h:a[n]-less<0
 ·rw[dw (by simpa using h),dw h,dw (by omega),dw (by omega)]
 rw[dA (by simpa using h),dA h,dw (by omega),dw (by omega)]
theorem Q6 {a b:ar}(bC:cu a)(aL:cu b)(hlen:b.length<=a.length)(vN:V b<=V a)(so:a.length<=900000):vc a b=some (L (V a-V b)):=by
 have : ∃r,Ph b a a.length 0 0 (List.replicate a.length 0)=some r/\cu r/\r.length=a.length/\V r=V a-V b:=by
  refine jz (eS:=fun w:Int×Int×ar=> ∃n:Nat,w.2.1=n/\n<=a.length/\(w.1=0\/w.1=1)/\cu w.2.2/\w.2.2.length=a.length/\V w.2.2-w.1*B n=V (a.take n)-V (b.take n)/\ ∀j,n<=j->j<a.length->w.2.2[j]? = some 0) (m:=fun w=>a.length-w.2.1.toNat) _ ?_ _ ⟨0,rfl,by omega,.inl rfl,cu.K6 _,by simp,by simp[V,Kb],fun j _ h=>by simp[List.getElem?_replicate];omega⟩;rintro⟨less,ii,row⟩ ⟨n,e1,aD,bH,cX,di,d5,eP⟩;simp only at e1 bH cX di d5 eP ⊢;subst e1;by_cases aX:n=a.length
  ·subst aX;refine .inr ⟨row,by simp[zO],cX,di,?_⟩;rw[List.take_length,dQ hlen] at d5;have o:=od cX;rw[di] at o;rcases bH with rfl|rfl<;>omega
  obtain⟨x,y,U,aR,qi⟩:=ZO (row:=row) (n:=n) bC aL bH (by omega) (by omega) (by omega);have x0:=U.1;have x1:=U.2.1;have Ul:=aR.1;have nt:=aR.2.1;rw[qi];refine .inl ⟨_,rfl,?_⟩;by_cases h:x-less-y<0
  ·rw[dw h]
   refine⟨⟨n+1,rfl,by omega,.inr rfl,cX.set (by omega),by simpa using di,?_,fun j h1 o=> ?_⟩,by simp only;omega⟩
   ·simp only;rw[s5 (eP n (dG _) (by omega)),mY,U.take,aR.take];grind
   simp only;rw[List.getElem?_set_ne (by omega)];exact eP j (by omega) o
  rw[dA h];refine⟨⟨n+1,rfl,by omega,.inl rfl,cX.set (by omega),by simpa using di,?_,fun j h1 o=> ?_⟩,by simp only;omega⟩
  ·simp only;rw[s5 (eP n (dG _) (by omega)),U.take,aR.take];grind
  simp only;rw[List.getElem?_set_ne (by omega)];exact eP j (by omega) o
 obtain⟨r,ai,h1,o,aa⟩:=this;unfold vc;simp only[gj];rw[dw (by omega),dy,ai];simp only[dC,dB];rw[AA h1 (by omega),aa];rfl
theorem R8 {a b:Int}(h:decide (a<0)=decide (b<0)):ev (decide (a<0)) ((a.natAbs:Int)+(b.natAbs:Int))=a+b:=by
 have cF:a<0↔b<0:=by simpa using h
 unfold ev;by_cases h1:a<0
 ·have:=cF.1 h1;simp only[h1,decide_true,if_true];omega
 have : ¬b<0:=fun aL=>h1 (cF.2 aL);simp only[h1,decide_false,ah2,if_false];omega
theorem F4 {a b:Int}(h:¬decide (a<0)=decide (b<0)):ev (decide (a<0)) ((a.natAbs:Int)-(b.natAbs:Int))=a+b/\ev (decide (b<0)) ((b.natAbs:Int)-(a.natAbs:Int))=a+b:=by
 have cF : ¬(a<0↔b<0):=by simpa using h
 unfold ev;by_cases h1:a<0
 ·have o : ¬b<0:=fun aL=>cF ⟨fun _=>aL,fun _=>h1⟩;simp only[h1,o,decide_true,if_true,decide_false,ah2,if_false];omega
 have o:b<0:=by apply Classical.byContradiction;intro aL;exact cF ⟨fun h=>absurd h h1,fun h=>absurd h aL⟩
 simp only[h1,o,decide_true,if_true,decide_false,ah2,if_false];omega
theorem FU {x y:Int}(U:0<=x)(K7:x<=y):(L x).length<=(L y).length:=by apply (jD U).2;have:=od (hK y);rw[ey (by omega)] at this;omega
theorem QB {a b:Int}(bC:(a.natAbs:Int)<B 50)(aL:(b.natAbs:Int)<B 50):re (hD a) (hD b)=some (hD (a+b)):=by
 have uS:=(jD (k:=50) (n:=a.natAbs) (by omega)).2 bC;have ys:=(jD (k:=50) (n:=b.natAbs) (by omega)).2 aL;have rO:B 50+B 50<=B 60:=by have h1:B 51<=B 60:=r7 (by omega);have o:=py 50;rw[mY] at h1;omega
 have bX:re (hD a) (hD b)=(if (decide (a<0) == decide (b<0))=true then (z8 (L a.natAbs) (L b.natAbs)).bind fun bM=>(iD (decide (a<0)) bM).bind fun a6=>some a6 else (rc (L a.natAbs) (L b.natAbs)).bind fun bM=>if (decide ((0:Int)<=bM))=true then (tK (L a.natAbs) (L b.natAbs)).bind fun av=>(iD (decide (a<0)) av).bind fun bG=>some bG else (tK (L b.natAbs) (L a.natAbs)).bind fun av=>(iD (decide (b<0)) av).bind fun bG=>some bG):=rfl;rw[bX];by_cases h:decide (a<0)=decide (b<0)
 ·rw[dw (by simpa using h)];obtain⟨r,r1,bM,bj,a6⟩:=abw (hK a.natAbs) (hK b.natAbs) (by omega) (by omega);rw[ey (by omega),ey (by omega)] at bj;rw[r1,dB,aaB bM (by omega) (by omega),bj,R8 h];rfl
 rw[dA (by simpa using h),tX (jN _) (jN _) (by omega),ey (by omega),ey (by omega),dB];by_cases a8:(b.natAbs:Int)<=a.natAbs
 ·have x9:0<=lB (a.natAbs:Int) b.natAbs:=by
   apply Int.not_lt.mp;intro h1;have:=vg.1 h1;omega
  rw[dw (by simpa using x9),sub_eq (hK _) (hK _) (FU (by omega) a8) (by rw[ey (by omega),ey (by omega)];exact a8) (by omega),ey (by omega),ey (by omega),dB,rh (by omega) (by omega),(F4 h).1];rfl
 have x9 : ¬0<=lB (a.natAbs:Int) b.natAbs:=by have:=vg.2 (show (a.natAbs:Int)<b.natAbs by omega);omega
 rw[dA (by simpa using x9),sub_eq (hK _) (hK _) (FU (by omega) (by omega)) (by rw[ey (by omega),ey (by omega)];omega) (by omega),ey (by omega),ey (by omega),dB,rh (by omega) (by omega),(F4 h).2];rfl
theorem abx {a b:Int}(bC:(a.natAbs:Int)<B 50)(aL:(b.natAbs:Int)<B 50):zU (hD a) (hD b)=some (hD (a+b)):=by
 have uS:=(jD (k:=50) (n:=a.natAbs) (by omega)).2 bC;have ys:=(jD (k:=50) (n:=b.natAbs) (by omega)).2 aL;have bX:zU (hD a) (hD b)=((rS (L a.natAbs) (L b.natAbs)).bind fun r1=>if (decide (a<0) == decide (b<0))=true then (Ai (L a.natAbs) (L b.natAbs)).bind fun bM=>(n0 (decide (a<0)) bM).bind fun a6=>some a6 else if (decide ((0:Int)<=r1))=true then (vc (L a.natAbs) (L b.natAbs)).bind fun av=>(n0 (decide (a<0)) av).bind fun bG=>some bG else (vc (L b.natAbs) (L a.natAbs)).bind fun av=>(n0 (decide (b<0)) av).bind fun bG=>some bG):=rfl;rw[bX,P5 (jN _) (jN _) (by omega),ey (by omega),ey (by omega),dB];by_cases h:decide (a<0)=decide (b<0)
 ·rw[dw (by simpa using h),aca (hK _) (hK _) (by omega) (by omega),ey (by omega),ey (by omega),dB,tP (by omega),R8 h];rfl
 rw[dA (by simpa using h)];by_cases a8:(b.natAbs:Int)<=a.natAbs
 ·have x9:0<=lB (a.natAbs:Int) b.natAbs:=by
   apply Int.not_lt.mp;intro h1;have:=vg.1 h1;omega
  rw[dw (by simpa using x9),Q6 (hK _) (hK _) (FU (by omega) a8) (by rw[ey (by omega),ey (by omega)];exact a8) (by omega),ey (by omega),ey (by omega),dB,tP (by omega),(F4 h).1];rfl
 have x9 : ¬0<=lB (a.natAbs:Int) b.natAbs:=by have:=vg.2 (show (a.natAbs:Int)<b.natAbs by omega);omega
 rw[dA (by simpa using x9),Q6 (hK _) (hK _) (FU (by omega) (by omega)) (by rw[ey (by omega),ey (by omega)];omega) (by omega),ey (by omega),ey (by omega),dB,tP (by omega),(F4 h).2];rfl
theorem J5 {b:Int}:ev (!(decide (b<0))) (b.natAbs:Int) = -b:=by
 unfold ev;by_cases h:b<0
 ·simp only[h,decide_true,Bool.not_true,ah2,if_false];omega
 simp only[h,decide_false,Bool.not_false,if_true];omega
theorem aaE {a b:Int}(bC:(a.natAbs:Int)<B 50)(aL:(b.natAbs:Int)<B 50):wC (hD a) (hD b)=some (hD (a-b)):=by have bX:wC (hD a) (hD b)=(((n0 (!(decide (b<0))) (L b.natAbs)).bind fun r=>some r).bind fun r1=>(zU (hD a) r1).bind fun bj=>some bj):=rfl;rw[bX,tP (by omega),J5,dB,dB,abx bC (by omega),dB,Int.sub_eq_add_neg]
theorem Fr.neg {q:Int×Int}(h:Fr q):Fr (-q.1,q.2):=⟨h.pos,by simp only;rw[Int.neg_gcd];exact h.TO,by simp only;have:=h.num;omega,h.den⟩
theorem aaF {q:Int×Int}(h:Fr q):wW (mk q)=some (mk (-q.1,q.2)):=by have h1:=h.num;have o:=h.ul;have aa:=J3;have bX:wW (mk q)=((iD (!(decide (q.1<0))) (L q.1.natAbs)).bind fun r1=>if (([]:ar)++L q.2).length*8<=140737488355328 then some (⟨r1,([]:ar)++L q.2⟩:bc) else none):=rfl;rw[bX,rh (by omega) (by omega),J5,dB,dw (by simp;omega)];rfl
theorem Q7 {p q:Int×Int}(ae:Fr p)(a1:Fr q):((p.1*q.2).natAbs:Int)<B 48/\(L (p.1.natAbs*q.2:Int)).length<=48/\0<=(p.1.natAbs*q.2:Int):=by have aS:=a1.pos;have a9:=vh (x:=p.1.natAbs) (y:=q.2) (by omega) (by omega) ae.num a1.den;have EX:0<=(p.1.natAbs:Int)*q.2:=Int.mul_nonneg (by omega) (by omega);rw[J4 (by omega)];exact⟨(jD EX).1 a9,a9,EX⟩
theorem acL:B 48+B 48<=B 50:=by have h1:B 49<=B 50:=r7 (by omega);have o:=py 48;rw[mY] at h1;omega
theorem aaG {p q:Int×Int}(ae:Fr p)(a1:Fr q):sM (mk p) (mk q)=some (enc (low (p.1*q.2+q.1*p.2) (p.2*q.2))):=by
 have h1:=ae.vD;have o:=ae.ul;have aa:=a1.vD;have ao:=a1.ul;have aC:=ae.pos;have aS:=a1.pos;have S0:=ae.num;have o9:=a1.num;have ahE:=ae.den;have ahF:=a1.den;have gP:=acL;have agO:B 24<=B 48:=r7 (by omega);have agP:B 50<=B 60:=r7 (by omega);obtain⟨bl,b8,jI⟩:=Q7 ae a1;obtain⟨d1,d2,vV⟩:=Q7 a1 ae;have agY:=py 48;have e1:iv (L p.1.natAbs) (L q.2)=some (L ((p.1.natAbs:Int)*q.2)):=by rw[mul_eq (hK _) (hK _) (by omega) (by omega),ey (by omega),ey (by omega)]
 have aD:iv (L q.1.natAbs) (L p.2)=some (L ((q.1.natAbs:Int)*p.2)):=by rw[mul_eq (hK _) (hK _) (by omega) (by omega),ey (by omega),ey (by omega)]
 have bH:iD (decide (p.1<0)) (L ((p.1.natAbs:Int)*q.2))=some (hD (p.1*q.2)):=by rw[rh jI (by rw[<- J4 (by omega)];omega),C3]
 have cX:iD (decide (q.1<0)) (L ((q.1.natAbs:Int)*p.2))=some (hD (q.1*p.2)):=by rw[rh vV (by rw[<- J4 (by omega)];omega),C3]
 have di:re (hD (p.1*q.2)) (hD (q.1*p.2))=some (hD (p.1*q.2+q.1*p.2)):=QB (by omega) (by omega);have bf:=vh (x:=p.2) (y:=q.2) (by omega) (by omega) ae.den a1.den;have d5:iv (L p.2) (L q.2)=some (L (p.2*q.2)):=by rw[mul_eq (hK _) (hK _) (by omega) (by omega),ey (by omega),ey (by omega)]
 have SN:(L (p.1*q.2+q.1*p.2).natAbs).length<=50:=(jD (by omega)).2 (by omega)
 have eP:o0 (decide (p.1*q.2+q.1*p.2<0)) (L (p.1*q.2+q.1*p.2).natAbs) (L (p.2*q.2))=some (enc (low (p.1*q.2+q.1*p.2) (p.2*q.2))):=by
  rw[Ji (by omega) (Int.mul_pos aC aS) (by omega) (by omega)]
  have:ev (decide (p.1*q.2+q.1*p.2<0)) ((p.1*q.2+q.1*p.2).natAbs:Int)=p.1*q.2+q.1*p.2:=by
   have:=C3 (a:=p.1*q.2+q.1*p.2) (b:=1)
   rwa [Int.mul_one,Int.mul_one] at this
  rw[this]
 have SU:((iv (L p.1.natAbs) (L q.2)).bind fun bG=>(iD (decide (p.1<0)) bG).bind fun bR=>(iv (L q.1.natAbs) (L p.2)).bind fun da=>(iD (decide (q.1<0)) da).bind fun eO=>(re bR eO).bind fun gZ=>(iv (L p.2) (L q.2)).bind fun gw=>(o0 gZ.cS gZ.cG gw).bind fun pO=>some pO)=some (enc (low (p.1*q.2+q.1*p.2) (p.2*q.2))):=by rw[e1,dB,bH,dB,aD,dB,cX,dB,di,dB,d5,dB];show (o0 (decide (p.1*q.2+q.1*p.2<0)) (L (p.1*q.2+q.1*p.2).natAbs) (L (p.2*q.2))).bind _=_;rw[eP,dB]
 have bX:sM (mk p) (mk q)=((rT (L p.2)).bind fun r1=>if r1=true then (rT (L q.2)).bind fun a6=>if a6=true then (re (hD p.1) (hD q.1)).bind fun bG=>(o0 bG.cS bG.cG ([1]:ar)).bind fun bR=>some bR else ((iv (L p.1.natAbs) (L q.2)).bind fun bG=>(iD (decide (p.1<0)) bG).bind fun bR=>(iv (L q.1.natAbs) (L p.2)).bind fun da=>(iD (decide (q.1<0)) da).bind fun eO=>(re bR eO).bind fun gZ=>(iv (L p.2) (L q.2)).bind fun gw=>(o0 gZ.cS gZ.cG gw).bind fun pO=>some pO) else ((iv (L p.1.natAbs) (L q.2)).bind fun bG=>(iD (decide (p.1<0)) bG).bind fun bR=>(iv (L q.1.natAbs) (L p.2)).bind fun da=>(iD (decide (q.1<0)) da).bind fun eO=>(re bR eO).bind fun gZ=>(iv (L p.2) (L q.2)).bind fun gw=>(o0 gZ.cS gZ.cG gw).bind fun pO=>some pO)):=rfl;rw[bX,Dg (by omega),dB];by_cases bY:p.2=1
 ·rw[dw (by simpa using bY),Dg (by omega),dB]
  by_cases aN:q.2=1
  ·rw[dw (by simpa using aN),QB (by omega) (by omega),dB];have gg:p.1*q.2+q.1*p.2=p.1+q.1:=(by rw[bY,aN,Int.mul_one,Int.mul_one]);have Um:p.2*q.2=1:=(by rw[bY,aN];rfl);rw[gg,Um,Sx] at eP;rw[gg,Um];show (o0 (decide (p.1+q.1<0)) (L (p.1+q.1).natAbs) [1]).bind _=_;rw[eP,dB]
  rw[dA (by simpa using aN)];exact SU
 rw[dA (by simpa using bY)];exact SU
def rl (n:Int):Bool:=decide (-100<=n/\n<=100)
def se (yw:Nat)(l:ar):Bool:=decide (l.length=2*yw) && l.all rl
theorem ZP (n:Int):Cy n=some (rl n):=by unfold Cy rl;by_cases h : -100<=n<;>simp[h]
theorem QC (s:cv)(p:Bool)(ae:nZ s=some p)(sC:p=true->s.bP.length<=6)(l:ar)(aO:l.length<=maxLen):sL s l=some (p && se s.bP.length l):=by
 have hm:=Ak;unfold sL;simp only[ae,dC,dB,ff]
 cases p with
 | false=>rfl
 | true =>
  have sC:=sC rfl;have hw:R (2*((s.bP.length:Nat):Int))=2*((s.bP.length:Nat):Int):=ch (by omega) (by omega);rw[hw];unfold se;by_cases e:l.length=2*s.bP.length;rotate_left
  ·have c:((l.length:Int) != 2*(s.bP.length:Int))=true:=(by simp;omega);simp only[c,if_true];simp[e]
  have h1:OL l (l.length:Nat) 0=some (if l.all rl then .inl () else .inr ()):=by
   refine QU (f:=fun w=>zA l (l.length:Nat) w) l rl (fun n x U=> ?_) ?_
   ·have dZ:=gi U
    unfold zA;have c:(n:Int)<(l.length:Int):=(by omega);have d6:0<=(n:Int)/\(n:Int)<(l.length:Int):=(by omega);simp only[decide_eq_true c,if_true,dw d6,dy,U,dC,dB,rX];rw[i1 (by omega)];unfold rl;by_cases q : -100<=x/\x<=100
    ·simp[q]
    rw[decide_eq_false q];simp
   simp[zA]
  have c:((l.length:Int) != 2*(s.bP.length:Int))=false:=(by simp;omega);simp only[c,h1,ah2,if_false,if_true,dB];cases l.all rl<;>simp[e]
theorem Zc (s:cv)(sC:s.bP.length<=6)(l:ar)(aO:l.length<=maxLen):Co s l=some (se s.bP.length l):=by
 have hm:=Ak;have hw:R (2*((s.bP.length:Nat):Int))=2*((s.bP.length:Nat):Int):=ch (by omega) (by omega);unfold Co E1 E4 se;simp only[ff,hw,dC];obtain⟨r,h1,o⟩:=aad (f:=fun w=>yC l (l.length:Nat) w) l (fun n=> !rl n) (fun n x U=>by have dZ:=gi U;unfold yC Ff;have c:(n:Int)<(l.length:Int):=(by omega);have d6:0<=(n:Int)/\(n:Int)<(l.length:Int):=(by omega);simp only[decide_eq_true c,if_true,dw d6,dy,U,dC,dB,ZP];rw[i1 (by omega)];cases rl x<;>rfl) (by simp[yC]);have rC:Mf l (l.length:Nat) 0=some r:=h1;rw[rC];have adW:(l.any fun n=> !rl n) = !l.all rl:=by rw[List.not_all_eq_any_not]
 rw[adW] at o;by_cases e:l.length=2*s.bP.length
 ·have c:((l.length:Int) == 2*(s.bP.length:Int))=true:=by simp;omega
  rw[c];rcases o with ⟨k,rfl,aZ,bC⟩|⟨rfl,bC⟩
  ·simp only[Bool.not_eq_true'] at bC;simp[e,bC,aZ]
  simp only[Bool.not_eq_false'] at bC;simp[e,bC]
 have c:((l.length:Int) == 2*(s.bP.length:Int))=false:=by simp;omega
 rw[c];simp[e]
theorem oV {i:Int}{a:Nat}(h0:0<=i)(h1:i<=100)(bC:a<=1):R (R (2*i)+(a:Int))=(((2*i+a).toNat:Nat):Int):=by rw[ch (x:=2*i) (by omega) (by omega),ch (by omega) (by omega)];omega
theorem Zd (l:ar)(h:l.length<=1048576):Cd l=some l:=by
 have aL : ∀(n:Nat) x (row:ar),l[n]? = some x->row.length=l.length->wo l n row=some (.inl (((n+1:Nat):Int),row.set n x)):=by intro n x row U ai;obtain⟨aX,rfl⟩:=ahV.1 U;have hw:R ((n:Int)+1)=((n+1:Nat):Int):=(by rw[ch (by omega) (by omega)];rfl);simp only[wo,ff,hw];simp[aX,ai]
 have he : ∀row:ar,wo l l.length row=some (.inr row):=by intro row;simp[wo,ff]
 have h1:N5 l 0 (List.replicate (len_ eI l).toNat 0)=some l :=
  Jd l (List.replicate (len_ eI l).toNat 0) (by simp[ff]) aL he
 unfold Cd;rw[h1,dw (by rw[ff];omega)];simp[ff]
theorem Yp (l:ail)(h:l.length<=1048576):B0 l=some l:=by
 have aL : ∀(n:Nat) x (row:ail),l[n]? = some x->row.length=l.length->wk l n row=some (.inl (((n+1:Nat):Int),row.set n x)):=by intro n x row U ai;obtain⟨aX,rfl⟩:=ahV.1 U;have hw:R ((n:Int)+1)=((n+1:Nat):Int):=(by rw[ch (by omega) (by omega)];rfl);simp only[wk,ff,hw,Fu];simp[aX,ai]
 have he : ∀row:ail,wk l l.length row=some (.inr row):=by intro row;simp[wk,ff]
 have h1:Nu l 0 (List.replicate (len_ bw l).toNat (⟨ByteArray.empty,0,0,false⟩:bN))=some l :=
  Jd l _ (by simp[ff]) aL he
 unfold B0;rw[h1,dw (by rw[ff];omega)];simp[ff]
theorem X9 (l:aik)(h:l.length<=1048576):BW l=some l:=by
 have aL : ∀(n:Nat) x (row:aik),l[n]? = some x->row.length=l.length->wj l n row=some (.inl (((n+1:Nat):Int),row.set n x)):=by intro n x row U ai;obtain⟨aX,rfl⟩:=ahV.1 U;have hw:R ((n:Int)+1)=((n+1:Nat):Int):=(by rw[ch (by omega) (by omega)];rfl);simp only[wj,ff,hw,Fm];simp[aX,ai]
 have he : ∀row:aik,wj l l.length row=some (.inr row):=by intro row;simp[wj,ff]
 have h1:Nn l 0 (List.replicate (len_ bB l).toNat (⟨0,0,0⟩:b1))=some l :=
  Jd l _ (by simp[ff]) aL he
 unfold BW;rw[h1,dw (by rw[ff];omega)];simp[ff]
theorem Xx (s:cv)(h1:s.bP.length<=1048576)(o:s.bh.length<=1048576):BR s=some (s.bP,s.bh):=by simp[BR,Yp _ h1,X9 _ o]
def LA (P:ais):b9->Prop
 | none=>True
 | some (k,c)=> ∃x,P[k]? = some x/\x.length=c/\c<=1048576
theorem LA.set {P:ais}{k:Nat}{x y:ar}(U:P[k]? = some x)(aR:y.length=x.length){h:b9}(gf:LA P h):LA (P.set k y) h:=by
 cases h with
 | none=>trivial
 | some p =>
  obtain⟨j,c⟩:=p;obtain⟨z,h1,o,aa⟩:=gf;by_cases au:k=j
  ·subst au;rw[U] at h1;obtain rfl:=dJ h1;exact⟨y,by rw[ah1,dw rfl,dw (gi U)],by omega,aa⟩
  exact⟨z,by rw[ah1,dA au];exact h1,o,aa⟩
theorem Sy (x:Int):(s7 [x]).size=1:=rfl
theorem Yq {k:Int}(h:k<=1000000000000000000): ∃r,Cr k=some r:=by
 unfold Cr;by_cases c:k<=0
 ·exact⟨_,by rw[dw (by simpa using c)]⟩
 rw[dA (by simpa using c)]
 obtain⟨r,r1,bM⟩:=jz (f:=fun w:Int×ByteArray=>zm w.1 w.2) (eS:=fun w=>0<=w.1/\(w.2.size:Int)+w.1<=1000000000000000000) (m:=fun w=>w.1.toNat)
  (fun r=>(r.size:Int)<=1000000000000000000) (by
    rintro⟨a,I⟩ ⟨h1,o⟩;simp only at h1 o;by_cases bC:0<a
    ·have bF:a.tdiv 10=a / 10:=by rw[Int.tdiv_eq_ediv_of_nonneg h1]
     refine .inl ⟨(a / 10,s7 [IntKind.wrap .u8 (R ((48:Int)+(a.tmod (10:Int))))]++I),?_,⟨by simp only;omega,?_⟩,by simp only;omega⟩
     ·unfold zm;simp only;rw[dw (by simpa using bC),Sy,dw (by omega),bF,ch (by omega) (by omega)]
     simp only[ByteArray.size_append,Sy];omega
    exact .inr ⟨I,by simp[zm,bC],by omega⟩) (k,⟨#[]⟩) ⟨by simp only;omega,by
    have:(⟨#[]⟩:ByteArray).size=0:=rfl;simp only[this];omega⟩
 unfold On;rw[r1];refine⟨_,by simp only[dC,dB];rw[dw ?_];have:(⟨#[109]⟩:ByteArray).size=1:=rfl;rw[this];omega⟩
theorem W2 {k:Int}{l:ail}(h0:0<=k)(h:k+4*l.length<=1000000000000000000):
 ∃dc fC,BU k l=some (dc,fC)/\fC.length=l.length/\0<=dc/\dc<=k+4*l.length:=by
 obtain⟨r,r1,bM⟩:=jz (f:=fun w:Int×Int×ail=>wi w.1 w.2.1 w.2.2)
  (eS:=fun w=> ∃n:Nat,w.2.1=n/\n<=l.length/\w.2.2.length=l.length/\0<=w.1/\w.1<=k+4*n)
  (m:=fun w=>l.length-w.2.1.toNat) (fun r=>r.2.length=l.length/\0<=r.1/\r.1<=k+4*l.length) (by
    rintro⟨a,i,row⟩ ⟨n,e1,aD,bH,cX,di⟩;simp only at e1 bH cX di;subst e1;by_cases aX:n=l.length
    ·subst aX;refine .inr ⟨(a,row),by simp[wi,bH],bH,cX,di⟩
    have rB:n<row.length:=(by omega);obtain⟨t,cb⟩:=Yq (k:=a) (by omega);have hw:R ((n:Int)+1)=((n+1:Nat):Int):=(by rw[ch (by omega) (by omega)];rfl);have j5:R (a+1)=a+1:=ch (by omega) (by omega);have oV:R (a+1+1)=a+1+1:=ch (by omega) (by omega);have rR:R (a+1+1+1)=a+1+1+1:=ch (by omega) (by omega);have Hx:R (a+1+1+1+1)=a+1+1+1+1:=ch (by omega) (by omega);have key : ∃dV,wi a n row=some (.inl (a+1+1+1+1,((n+1:Nat):Int),dV))/\dV.length=row.length:=(by unfold wi;rw[dw (by simpa using rB),cb,j5,oV,rR,Hx,hw];simp only[dC,dB,dF,dy];rw[dw (by omega),dx rB];simp only[dB,List.getElem?_set_self rB,List.length_set,List.getElem?_set_self (show n<(row.set n _).length by simpa using rB),List.set_set];exact⟨_,rfl,by simp⟩);obtain⟨dV,h1,o⟩:=key;refine .inl ⟨_,h1,⟨n+1,rfl,by omega,by simp only;omega,by simp only;omega,by simp only;omega⟩,by simp;omega⟩) (k,0,l) ⟨0,rfl,by omega,rfl,h0,by simp⟩
 obtain⟨dc,fC⟩:=r;exact⟨dc,fC,by unfold BU Nl;rw[r1];rfl,bM⟩
theorem WU {k:Int}{l:aik}(h0:0<=k)(h:k+3*l.length<=1000000000000000000):
 ∃dc fC,BT k l=some (dc,fC)/\fC.length=l.length/\0<=dc/\dc<=k+3*l.length:=by
 obtain⟨r,r1,bM⟩:=jz (f:=fun w:Int×Int×aik=>wh w.1 w.2.1 w.2.2)
  (eS:=fun w=> ∃n:Nat,w.2.1=n/\n<=l.length/\w.2.2.length=l.length/\0<=w.1/\w.1<=k+3*n)
  (m:=fun w=>l.length-w.2.1.toNat) (fun r=>r.2.length=l.length/\0<=r.1/\r.1<=k+3*l.length) (by
    rintro⟨a,i,row⟩ ⟨n,e1,aD,bH,cX,di⟩;simp only at e1 bH cX di;subst e1;by_cases aX:n=l.length
    ·subst aX;refine .inr ⟨(a,row),by simp[wh,bH],bH,cX,di⟩
    have rB:n<row.length:=(by omega);have hw:R ((n:Int)+1)=((n+1:Nat):Int):=(by rw[ch (by omega) (by omega)];rfl);have j5:R (a+1)=a+1:=ch (by omega) (by omega);have oV:R (a+1+1)=a+1+1:=ch (by omega) (by omega);have rR:R (a+1+1+1)=a+1+1+1:=ch (by omega) (by omega);have key : ∃dV,wh a n row=some (.inl (a+1+1+1,((n+1:Nat):Int),dV))/\dV.length=row.length:=(by unfold wh;rw[dw (by simpa using rB),j5,oV,rR,hw];simp only[dF,dy];rw[dw (by omega),dx rB];simp only[dC,dB,List.getElem?_set_self rB,List.length_set,List.getElem?_set_self (show n<(row.set n _).length by simpa using rB),List.set_set];exact⟨_,rfl,by simp⟩);obtain⟨dV,h1,o⟩:=key;refine .inl ⟨_,h1,⟨n+1,rfl,by omega,by simp only;omega,by simp only;omega,by simp only;omega⟩,by simp;omega⟩) (k,0,l) ⟨0,rfl,by omega,rfl,h0,by simp⟩
 obtain⟨dc,fC⟩:=r;exact⟨dc,fC,by unfold BT M6;rw[r1];rfl,bM⟩
theorem Wr {k:Int}{l:ail}{m:aik}(h0:0<=k)(h:k+4*l.length+3*m.length<=1000000000000000000):
 ∃dc fC bi,zz k l m=some (dc,fC,bi)/\fC.length=l.length/\bi.length=m.length/\0<=dc/\dc<=k+4*l.length+3*m.length:=by
 obtain⟨kX,fC,e1,aD,bH,cX⟩:=W2 (l:=l) h0 (by omega);obtain⟨i4,bi,f1,f2,f3,f4⟩:=WU (k:=kX) (l:=m) bH (by omega);refine⟨i4,fC,bi,?_,aD,f2,f3,by omega⟩;unfold zz;rw[e1];simp only[dC,dB];rw[f1]
 first
  | rfl
  | (rw[dw aD.symm];simp only[dB];rw[dw f2.symm])
def marks (k:Int)(n:Nat):ar:=(List.range n).map fun i:Nat=>k+(i:Int)
theorem Al (k:Int)(n:Nat):(marks k n).length=n:=by simp[marks]
theorem aaH {k:Int}{n i:Nat}(h:i<n):(marks k n)[i]? = some (k+i):=by unfold marks;rw[dK,List.getElem?_range h];rfl
theorem ZQ {k:Int}{l:ar}{i:Nat}(h:i<l.length):(marks k i++l.drop i).set i (k+i)=marks k (i+1)++l.drop (i+1):=by unfold marks;rw[List.range_succ,List.map_append,List.set_append_right _ _ (by simp)];rw[show i-(List.map (fun i:Nat=>k+(i:Int)) (List.range i)).length=0 by simp,List.drop_eq_getElem_cons h,List.set_cons_zero];simp
theorem YL (k:Int):Cs [] k=some k:=by
 have h:Il [] k=some ():=by unfold Il;rw[iter];simp[E9,ff]
 simp[Cs,h]
theorem Pb {k:Int}{n:Nat}(h0:0<=k)(h:k+n<=1000000000000000000):wN (marks k n) k=some (k+n):=by
 have:=Jw (f:=fun w:Int×Int=>zn (marks k n) w.1 w.2) (s:=fun i=>(k+(i:Int),(i:Int))) (r:= .inl (k+(n:Int))) n 0 (fun i _ ab=> ?_) ?_
 ·unfold wN Oo;have e:(k+((0:Nat):Int),((0:Nat):Int))=(k,0):=(by simp);rw[e] at this;rw[this];rfl
 ·have jk:i<n:=(by omega);unfold zn;simp only[ff,Al];rw[dw (by simpa using jk),dw (by omega),dy,aaH jk,ch (by omega) (by omega),ch (by omega) (by omega)];simp[Int.add_assoc]
 simp[zn,ff,Al]
theorem YM {k:Int}(h0:0<=k)(h:k<=1000000000000000000):wN [] k=some k:=by have:=Pb (k:=k) (n:=0) h0 (by simpa using h);simpa [marks] using this
def lj:ail->Nat->List Nat
 | [],_=>[]
 | x::l,n=>if x.hb then lj l (n+1) else n::lj l (n+1)
theorem Jz : ∀(l:ail) (n i:Nat),i∈lj l n->n<=i/\i<n+l.length
 | [],n,i,h=>by simp[lj] at h
 | x::l,n,i,h=>by
  rw[lj] at h;simp only[dI];split at h
  ·have:=Jz l (n+1) i h;omega
  rcases dT.1 h with h|h
  ·omega
  have:=Jz l (n+1) i h;omega
theorem Q8 : ∀(l:ail) (n:Nat),(lj l n).length<=l.length
 | [],n=>by simp[lj]
 | x::l,n=>by rw[lj];have:=Q8 l (n+1);split<;>simp only[dI]<;>omega
theorem ZR {l:ail}{n:Nat}{x:bN}(h:l[n]? = some x)(m:Nat):lj (l.drop n) m=if x.hb then lj (l.drop (n+1)) (m+1) else m::lj (l.drop (n+1)) (m+1):=by rw[QV h,lj]
theorem QD {f:Int×ar->Option ((Int×ar)⊕ar)}(hz:ail)(sC:hz.length<=1000)
 (h : ∀(n:Nat) acc x,hz[n]? = some x->f ((n:Int),acc)=if x.hb=true then some (.inl (R ((n:Int)+1),acc)) else if (acc++[(n:Int)]).length*8<=140737488355328 then some (.inl (R ((n:Int)+1),acc++[(n:Int)])) else none)
 (he : ∀acc,f ((hz.length:Int),acc)=some (.inr acc)):iter f ((0:Int),[])=some ((lj hz 0).map (fun n:Nat=>(n:Int))):=by
 obtain⟨s,h1,o⟩:=iE (fun (n:Nat) (acc:ar)=>((n:Int),acc)) hz.length (fun n acc=>acc++(lj (hz.drop n) n).map (fun n:Nat=>(n:Int))=(lj hz 0).map (fun n:Nat=>(n:Int))/\acc.length<=n) (fun acc=>acc) (f:=f) (fun n aX acc cA=>by
  obtain⟨cA,aO⟩:=cA;have U:=dx aX;rw[ZR U] at cA;rw[h n acc _ U,oE (by omega)];by_cases c:hz[n].hb=true
  ·rw[dw c] at cA ⊢;exact⟨_,rfl,cA,by omega⟩
  rw[dA c] at cA ⊢;rw[dw (by simp only[dE,dI,dM];omega)];refine⟨_,rfl,?_,by simp only[dE,dI,dM];omega⟩;rw[List.append_assoc];exact cA) (fun acc _=>he acc) [] ⟨by rw[List.drop_zero];rfl,by simp⟩
 obtain⟨o,-⟩:=o;rw[List.drop_length] at o;simp only[lj,List.map_nil,List.append_nil] at o;subst o;exact h1
theorem I7 (s:cv)(sC:s.bP.length<=1000):wO s=some ((lj s.bP 0).map (fun n:Nat=>(n:Int))):=by
 unfold wO Ov
 rw[ff,QD s.bP sC (fun n acc x U=>by
  have aX:=gi U;unfold BL;exact eF (dn (aI (gt rfl U) rfl))) (fun acc=>by
  unfold BL;exact fl rfl)]
 rfl
theorem Pk (s:cv)(sC:s.bP.length<=1000):yT s=some ((lj s.bP 0).map (fun n:Nat=>(n:Int))):=by
 unfold yT Mi
 rw[ff,QD s.bP sC (fun n acc x U=>by
  have aX:=gi U;unfold BB;exact eF (dn (aI (gt rfl U) rfl))) (fun acc=>by
  unfold BB;exact fl rfl)]
 rfl
theorem IJ {k:Int}{l:ar}(h0:0<=k)(h:k+l.length<=1000000000000000000):wL k l=some (k+l.length,marks k l.length):=by
 have:=Jw (f:=fun w:Int×Int×ar=>zc w.1 w.2.1 w.2.2) (s:=fun n=>(k+(n:Int),(n:Int),marks k n++l.drop n)) (r:=(k+(l.length:Int),marks k l.length)) l.length 0 (fun i _ ab=> ?_) ?_
 ·unfold wL NL;have e:(k+((0:Nat):Int),((0:Nat):Int),marks k 0++l.drop 0)=(k,0,l):=(by simp[marks]);rw[e] at this;rw[this];rfl
 ·have jk:i<l.length:=(by omega);have aO:(marks k i++l.drop i).length=l.length:=(by simp[Al];omega);unfold zc;simp only[aO];rw[dw (by simpa using jk),dw (by omega),dF,dy,dw (by omega),ZQ jk,ch (by omega) (by omega),ch (by omega) (by omega)];simp only[Int.natCast_add,Int.add_assoc];rfl
 simp[zc,Al]
def hlen:b9->Nat
 | none=>0
 | some (_,c)=>c
def f6 (x:Rat):Int×Int:=(x.num,(x.den:Int))
def gu (x:Rat):Prop:=(x.num.natAbs:Int)<B 24/\(x.den:Int)<B 24
def cZ (x:Rat):bc:=mk (f6 x)
instance agk (x:Rat):Decidable (gu x):=by unfold gu;infer_instance
theorem gu.dW {x:Rat}(h:gu x):Fr (f6 x):=⟨by have:=x.den_pos;simp only[f6];omega,by simp only[f6];rw[Int.gcd,Int.natAbs_natCast];exact x.reduced,h.1,h.2⟩
theorem acb {n d:Int}(bF:0<d):low n d=if gu (Rat.divInt n d) then some (f6 (Rat.divInt n d)) else none:=by
 have e1:(Rat.divInt n d).num=n / (Int.gcd n d:Int):=by rw[Rat.num_divInt,Int.sign_eq_one_of_pos bF,Int.one_mul,Int.gcd_comm]
 have aD:((Rat.divInt n d).den:Int)=d / (Int.gcd n d:Int):=by rw[Rat.den_divInt,dA (by omega),Int.gcd_comm];rw[Int.natCast_ediv,Int.natAbs_of_nonneg (by omega)]
 have bH:gu (Rat.divInt n d)↔fits ((n / (Int.gcd n d:Int)).natAbs:Int)/\fits (d / (Int.gcd n d:Int)):=by unfold gu fits;rw[e1,aD]
 unfold low;by_cases c:gu (Rat.divInt n d)
 ·rw[dw c,dw (bH.1 c)];unfold f6;rw[e1,aD]
 rw[dA c,dA (fun x=>c (bH.2 x))]
theorem JA {n d:Int}{x:Rat}(bF:0<d)(e:(d:Rat)*x=n)(h:gu x):low n d=some (f6 x):=by
 have rz:(d:Rat)≠0:=fun c=>by have:d=0:=Rat.intCast_inj.1 (by rw[c];rfl);omega
 have:x=Rat.divInt n d:=by rw[Rat.divInt_eq_div,<- e];grind
 rw[acb bF,<- this,dw h]
theorem AB (x:Rat):((x.den:Int):Rat)*x=((x.num:Int):Rat):=by
 have h:x=(x.num:Rat) / ((x.den:Int):Rat):=by rw[<- Rat.divInt_eq_div,Rat.num_divInt_den]
 have bF:((x.den:Int):Rat)≠0:=fun c=>by have:(x.den:Int)=0:=Rat.intCast_inj.1 (by rw[c];rfl);have:=x.den_pos;omega
 conv=>lhs;rhs;rw[h]
 grind
theorem R9 {x y:Rat}(U:gu x)(aR:gu y)(h:gu (x*y)):u6 (cZ x) (cZ y)=some (cZ (x*y)):=by unfold cZ;rw[aaw U.dW aR.dW,JA (x:=x*y) (Int.mul_pos U.dW.pos aR.dW.pos) ?_ h];rfl;have h1:=AB x;have o:=AB y;simp only[f6,aid];grind
theorem J6 {x y:Rat}(U:gu x)(aR:gu y)(h:gu (x+y)):sM (cZ x) (cZ y)=some (cZ (x+y)):=by unfold cZ;rw[aaG U.dW aR.dW,JA (x:=x+y) (Int.mul_pos U.dW.pos aR.dW.pos) ?_ h];rfl;have h1:=AB x;have o:=AB y;simp only[f6,aid,Rat.intCast_add];grind
theorem gu.neg {x:Rat}(h:gu x):gu (-x):=by unfold gu at h ⊢;rw[Rat.neg_num,Rat.neg_den,Int.natAbs_neg];exact h
theorem Sa {x:Rat}(U:gu x):wW (cZ x)=some (cZ (-x)):=by unfold cZ;rw[aaF U.dW];simp only[f6,Rat.neg_num,Rat.neg_den]
theorem aby {p:Int×Int}(h:Fr p):vb (mk p)=some true:=by
 have Hj:(L p.1.natAbs).length<=24:=(jD (by omega)).2 h.num;have En:(L p.2).length<=24:=(jD (by have:=h.pos;omega)).2 h.den;have ae:=h.pos;obtain⟨bY,gU,h7⟩:=I6 (a:=L p.1.natAbs) (by omega);obtain⟨aN,jo,ks⟩:=I6 (a:=L p.2) (by omega);have h1:bY=true:=h7.2 ⟨jN _,by omega⟩;have o:aN=true:=ks.2 ⟨jN _,by omega⟩;subst h1;subst o;have bF:(L p.2)≠[]:=fun c=>by have:=vq.1 c;omega
 have ahG:=aic.mpr bF
 have e1:Ck (mk p).fB=some true:=by
  unfold Ck;show (tL (L p.1.natAbs)).bind _=_;rw[gU];simp only[dB,if_true,gj];show (if decide (p.1<0)=true then some (decide ((0:Int)<(L p.1.natAbs).length)) else some true)=_;by_cases c:p.1<0
  ·rw[dw (by simpa using c)];have:L p.1.natAbs≠[]:=fun c=>(by have:=vq.1 c;omega);have:=aic.mpr this;rw[decide_eq_true (by omega)]
  rw[dA (by simpa using c)]
 unfold vb;rw[e1];simp only[dC,dB,if_true,gj];show (tL (L p.2)).bind _=_;rw[jo];simp only[dB,if_true];rw[show (mk p).hS=L p.2 from rfl,show (mk p).fB.cG=L p.1.natAbs from rfl];rw[dA (by simp[bF]),dA (by simp;omega),dA (by simp;omega)];rw[R5 (jN _) (jN _) (by omega) (by omega),ey (by omega),ey (by omega),RF (by omega),h.TO];simp only[dB];rw[Dg (by omega)];rfl
theorem Kg {x:Rat}(U:gu x):vb (cZ x)=some true:=aby U.dW
def kd (x:Rat):Int:=if x=0 then 0 else if x<0 then -1 else 1
theorem ri {x:Rat}(U:gu x):rb (cZ x)=some (kd x):=by
 unfold rb;rw[Kg U];simp only[dC,dB,if_true,gj];show (if (((L (f6 x).1.natAbs).length:Int) == 0)=true then some 0 else if decide ((f6 x).1<0)=true then some (-1) else some 1)=_;have e:((L (f6 x).1.natAbs).length:Int)=0↔x.num=0:=by rw[KC (by omega)];simp only[f6];omega
 unfold kd;by_cases h0:x=0
 ·rw[dw h0,dw];rw[beq_iff_eq,e,Rat.num_eq_zero];exact h0
 rw[dA h0,dA (by rw[beq_iff_eq,e,Rat.num_eq_zero];exact h0)];by_cases h1:x<0
 ·have o : ¬0<=x:=(by grind);have aa : ¬0<=x.num:=fun c=>o (Rat.num_nonneg.1 c);rw[dw h1,dw (decide_eq_true (show (f6 x).1<0 by simp only[f6];omega))]
 have o:0<=x:=by grind
 have aa:0<=x.num:=Rat.num_nonneg.2 o;rw[dA h1,dA (fun c=>by have:=of_decide_eq_true c;simp only[f6] at this;omega)]
theorem acM {x y:Rat}(U:gu x)(aR:gu y):wV (cZ x) (cZ y)=some (if x<y then -1 else if y<x then 1 else 0):=by unfold cZ;rw[aay U.dW aR.dW];unfold lB;simp only[f6,<- Rat.lt_iff]
theorem Sb {x y:Rat}(U:gu x)(aR:gu y)(h0:y≠0)(h:gu (x / y)):wU (cZ x) (cZ y)=some (cZ (x / y)):=by
 have h1:=U.dW.vD;have o:=U.dW.ul;have aa:=aR.dW.vD;have ao:=aR.dW.ul;have aC:=U.dW.pos;have aS:(0:Int)<(f6 y).1.natAbs:=by have:(f6 y).1≠0:=fun c=>h0 (Rat.num_eq_zero.1 c);omega
 have a9:=vh (x:=(f6 x).1.natAbs) (y:=(f6 y).2) (by omega) (by have:=aR.dW.pos;omega) U.dW.num aR.dW.den;have bf:=vh (x:=(f6 x).2) (y:=(f6 y).1.natAbs) (by omega) (by omega) U.dW.den aR.dW.num;have e1:iv (L (f6 x).1.natAbs) (L (f6 y).2)=some (L (((f6 x).1.natAbs:Int)*(f6 y).2)):=by rw[mul_eq (hK _) (hK _) (by omega) (by omega),ey (by omega),ey (by have:=aR.dW.pos;omega)]
 have aD:iv (L (f6 x).2) (L (f6 y).1.natAbs)=some (L ((f6 x).2*((f6 y).1.natAbs:Int))):=by rw[mul_eq (hK _) (hK _) (by omega) (by omega),ey (by omega),ey (by omega)]
 unfold wU;rw[Kg U,Kg aR];simp only[dC,dB,if_true];show (iv (L (f6 x).1.natAbs) (L (f6 y).2)).bind _=_;rw[e1];simp only[dB];show (iv (L (f6 x).2) (L (f6 y).1.natAbs)).bind _=_;rw[aD];simp only[dB];rw[Ji (Int.mul_nonneg (by omega) (by have:=aR.dW.pos;omega)) (Int.mul_pos aC aS) (by omega) (by omega)];simp only[dB];rw[JA (x:=x / y) (Int.mul_pos aC aS) ?_ h];rfl;have d1:=AB x;have d2:=AB y
 have bH:ev (!((cZ x).fB.cS == (cZ y).fB.cS)) (((f6 x).1.natAbs:Int)*(f6 y).2)=(if y<0 then -1 else 1)*((f6 x).1*(f6 y).2):=by
  show ev (!(decide ((f6 x).1<0) == decide ((f6 y).1<0))) _=_;have aX:=Rat.num_nonneg (q:=y);have hm:0<=((f6 x).1.natAbs:Int)*(f6 y).2:=Int.mul_nonneg (by omega) (by have:=aR.dW.pos;omega)
  have Ez:y<0↔(f6 y).1<0:=by
   have aa:=Rat.num_nonneg (q:=y);simp only[f6];constructor
   ·intro c;have : ¬0<=y:=(by grind);have ao : ¬0<=y.num:=fun c=>this (aa.1 c);omega
   intro c;have : ¬0<=y:=fun d6=>(by have:=aa.2 d6;omega);grind
  by_cases bl:(f6 x).1<0<;>by_cases b8:(f6 y).1<0
  ·rw[dw (Ez.2 b8),decide_eq_true bl,decide_eq_true b8];simp only[ev,BEq.rfl,Bool.not_true,ah2,if_false];rw[show ((f6 x).1.natAbs:Int) = -(f6 x).1 by omega];grind
  ·rw[dA (fun c=>b8 (Ez.1 c)),decide_eq_true bl,decide_eq_false b8];simp only[ev,show (!(true == false))=true from rfl,if_true];rw[show ((f6 x).1.natAbs:Int) = -(f6 x).1 by omega];grind
  ·rw[dw (Ez.2 b8),decide_eq_false bl,decide_eq_true b8];simp only[ev,show (!(false == true))=true from rfl,if_true];rw[show ((f6 x).1.natAbs:Int)=(f6 x).1 by omega];grind
  rw[dA (fun c=>b8 (Ez.1 c)),decide_eq_false bl,decide_eq_false b8];simp only[ev,BEq.rfl,Bool.not_true,ah2,if_false];rw[show ((f6 x).1.natAbs:Int)=(f6 x).1 by omega];grind
 rw[bH]
 have cX:(((f6 y).1.natAbs:Int):Rat)=(if y<0 then -1 else 1)*(((f6 y).1:Int):Rat):=by
  have aX:=Rat.num_nonneg (q:=y);by_cases c:y<0
  ·have:y.num<0:=by have : ¬0<=y.num:=fun h=>by have:=aX.1 h;grind
                    omega
   rw[dw c,show ((f6 y).1.natAbs:Int) = -(f6 y).1 by simp only[f6];omega,Rat.intCast_neg];grind
  have:0<=y.num:=aX.2 (by grind);rw[dA c,show ((f6 y).1.natAbs:Int)=(f6 y).1 by simp only[f6];omega];grind
 rw[aid,cX,aid,aid];simp only[f6] at *;split<;>grind
theorem tY {n:Int}(h:pF n):pY n=some (cZ (n:Rat)):=by rw[Yk h];unfold cZ f6;rw[Rat.num_intCast,Rat.den_intCast];rfl
theorem Q9 {n d:Int}{x:Rat}(h0:d≠0)(e:(d:Rat)*x=n)(aX:(n.natAbs:Int)<B 24)(bF:(d.natAbs:Int)<B 24):gu x:=by
 have rz:(d:Rat)≠0:=fun c=>h0 (Rat.intCast_inj.1 (by rw[c];rfl));have U:x=Rat.divInt n d:=by rw[Rat.divInt_eq_div,<- e];grind
 rw[U];unfold gu;rw[Rat.num_divInt,Rat.den_divInt,dA h0];constructor
 ·have h1:(d.sign*n / (d.gcd n:Int)).natAbs<=(d.sign*n).natAbs:=Int.natAbs_ediv_le_natAbs _ _;have o:(d.sign*n).natAbs<=n.natAbs:=(by rw[Int.natAbs_mul];have:d.sign.natAbs<=1:=(by rw[Int.natAbs_sign];split<;>omega);exact Nat.le_trans (ahY _ this) (by omega));omega
 have:d.natAbs / d.gcd n<=d.natAbs:=Nat.div_le_self _ _;omega
theorem sV {x:Rat}:kd x=0↔x=0:=by
 unfold kd;split
 ·simp_all
 split<;>simp_all
theorem r3 {x:Rat}:0<kd x↔0<x:=by
 unfold kd;split
 ·rename_i h;rw[h];simp
 split
 ·rename_i h1 o;constructor
  ·intro h;omega
  intro h;grind
 rename_i h1 o;constructor
 ·intro h;grind
 intro h;omega
theorem abz (n:Nat)(aX:n<=1000)(k:Nat)(aZ:k<n)(a b:Nat->Rat)(bC:∀j,j<n->gu (a j))(aL:∀j,j<n->gu (b j))(hm:∀j,j<n->gu (-(a k)*b j))(bX:∀j,j<n->gu (a j-a k*b j)):
 B3 k 0 n 0 n (a2 n fun j=>cZ (a j)) (a2 n fun j=>cZ (b j))=some (a2 n fun j=>cZ (a j-a k*b j)):=by
 unfold B3;refine dn (aI (x:=cZ (a k)) (by rw[dy];exact iQ aZ) (aI (ri (bC k aZ)) ?_));refine pj (fun h=> ?_) (fun h=> ?_)
 ·have h0:=sV.1 (by simpa using h);congr 1;exact eY fun j _=>by rw[h0];congr 1;grind
 refine aI (Sa (bC k aZ)) ?_
 obtain⟨s,e1,aD⟩:=iE (f:=fun w:Int×aif=>y8 0 n 0 n ((n:Nat):Int) (a2 n fun j=>cZ (b j)) (cZ (-(a k))).fB.cS (cZ (-(a k))).fB.cG (cZ (-(a k))).hS w.1 w.2)
  (fun (i:Nat) (_:Unit)=>((i:Int),a2 n fun j=>if j<i then cZ (a j-a k*b j) else cZ (a j))) n (fun _ _=>True) (fun _=>a2 n fun j=>cZ (a j-a k*b j))
  (fun i ab _ _=>by
    refine⟨(),?_,trivial⟩;unfold y8;refine eF (dn (aI (x:=cZ (b i)) (by simp only;rw[dy];exact iQ ab) (aI (ri (aL i ab)) ?_)));refine pj (fun h=> ?_) (fun h=> ?_)
    ·refine dn (aI (x:=cZ (a i)) (by simp only;rw[dy,iQ ab,dA (by omega)]) ?_)
     refine aI (R9 (bC k aZ).neg (aL i ab) (hm i ab)) (aI (J6 (bC i ab) (hm i ab) (by have:=bX i ab;rw[show a i + -(a k)*b i=a i-a k*b i by grind];exact this)) ?_);refine dn ?_;simp only;rw[fy (by omega),dy,dF,ly];congr 3
     exact eY fun j _=>by
      by_cases c:j=i
      ·subst c;rw[dw rfl,dw (by omega)];congr 1;grind
      rw[dA c];by_cases b8:j<i
      ·rw[dw b8,dw (by omega)]
      rw[dA b8,dA (by omega)]
    have h0:b i=0:=sV.1 (by simpa using h);simp only;rw[fy (by omega)];congr 3
    exact eY fun j _=>by
     by_cases c:j=i
     ·subst c;rw[dA (by omega),dw (by omega),h0];congr 1;grind
     by_cases b8:j<i
     ·rw[dw b8,dw (by omega)]
     rw[dA b8,dA (by omega)])
  (fun _ _=>by unfold y8;refine fl ?_;simp only;congr 2;exact eY fun j au=>dw au) () trivial
 refine aI (x:=a2 n fun j=>cZ (a j-a k*b j)) ?_ rfl;unfold ND;have bH:(a2 n fun j=>if j<0 then cZ (a j-a k*b j) else cZ (a j))=a2 n fun j=>cZ (a j):=eY fun j _=>dA (by omega);rw[bH] at e1;exact e1
theorem aaI (n:Nat)(aX:n<=1000)(k:Nat)(aZ:k<n)(a b:Nat->Rat)(bC:∀j,j<n->gu (a j))(aL:∀j,j<n->gu (b j))(hm:∀j,j<n->gu (-(a k)*b j))(bX:∀j,j<n->gu (a j-a k*b j)):
 BX k 0 n (a2 n fun j=>cZ (a j)) (a2 n fun j=>cZ (b j))=some (a2 n fun j=>cZ (a j-a k*b j)):=by
 unfold BX;rw[dX];refine dn (aI (x:=cZ (a k)) (by rw[dy];exact iQ aZ) (aI (ri (bC k aZ)) ?_));refine pj (fun h=> ?_) (fun h=> ?_)
 ·have h0:=sV.1 (by simpa using h);congr 1;exact eY fun j _=>by rw[h0];congr 1;grind
 refine aI (Sa (bC k aZ)) ?_
 obtain⟨s,e1,aD⟩:=iE (f:=fun w:Int×aif=>yY 0 n ((n:Nat):Int) (a2 n fun j=>cZ (b j)) (cZ (-(a k))).fB.cS (cZ (-(a k))).fB.cG (cZ (-(a k))).hS w.1 w.2)
  (fun (i:Nat) (_:Unit)=>((i:Int),a2 n fun j=>if j<i then cZ (a j-a k*b j) else cZ (a j))) n (fun _ _=>True) (fun _=>a2 n fun j=>cZ (a j-a k*b j))
  (fun i ab _ _=>by
    refine⟨(),?_,trivial⟩;unfold yY;refine eF (dn (aI (x:=cZ (b i)) (by simp only;rw[dy];exact iQ ab) (aI (ri (aL i ab)) ?_)));refine pj (fun h=> ?_) (fun h=> ?_)
    ·refine dn (aI (x:=cZ (a i)) (by simp only;rw[dy,iQ ab,dA (by omega)]) ?_)
     refine aI (R9 (bC k aZ).neg (aL i ab) (hm i ab)) (aI (J6 (bC i ab) (hm i ab) (by have:=bX i ab;rw[show a i + -(a k)*b i=a i-a k*b i by grind];exact this)) ?_);refine dn ?_;simp only;rw[fy (by omega),dy,dF,ly];congr 3
     exact eY fun j _=>by
      by_cases c:j=i
      ·subst c;rw[dw rfl,dw (by omega)];congr 1;grind
      rw[dA c];by_cases b8:j<i
      ·rw[dw b8,dw (by omega)]
      rw[dA b8,dA (by omega)]
    have h0:b i=0:=sV.1 (by simpa using h);simp only;rw[fy (by omega)];congr 3
    exact eY fun j _=>by
     by_cases c:j=i
     ·subst c;rw[dA (by omega),dw (by omega),h0];congr 1;grind
     by_cases b8:j<i
     ·rw[dw b8,dw (by omega)]
     rw[dA b8,dA (by omega)])
  (fun _ _=>by unfold yY;refine fl ?_;simp only;congr 2;exact eY fun j au=>dw au) () trivial
 refine aI (x:=a2 n fun j=>cZ (a j-a k*b j)) ?_ rfl;unfold Nq;have bH:(a2 n fun j=>if j<0 then cZ (a j-a k*b j) else cZ (a j))=a2 n fun j=>cZ (a j):=eY fun j _=>dA (by omega);rw[bH] at e1;exact e1
def nG (m N:Nat):aim:=a2 m fun i=>some (i,N+1)
def dr (m:Nat)(t:b7):ar:=a2 m fun i=>((t.B i:Nat):Int)
def hM (N:Nat)(t:b7)(i:Nat):aif:=a2 (N+1) fun j=>cZ (t.T i j)
def js (m N:Nat)(t:b7):aio:=a2 m (hM N t)
def lU (N:Nat)(c:Nat->Rat):aif:=a2 (N+1) fun j=>cZ (c j)
structure GF (m N:Nat) (t:b7) (c:Nat->Rat) (r k:Nat):Prop where
 T : ∀i,i<m-> ∀j,j<=N->gu (t.T i j)
 iP : ∀i,i<m-> ∀j,j<=N->gu ((t.ca r k).T i j)
 M : ∀i,i<m->i≠r-> ∀j,j<=N->gu (-(t.T i k)*(t.T r j / t.T r k))
 a8 : ∀j,j<=N->gu (c j)
 ta : ∀j,j<=N->gu (c j-c k*(t.T r j / t.T r k))
 hm : ∀j,j<=N->gu (-(c k)*(t.T r j / t.T r k))
theorem abA {m N:Nat}(hm:m<=1000)(fV:N<1000){t:b7}{c:Nat->Rat}{r k:Nat}(ai:r<m)(aZ:k<=N)(ae:t.T r k≠0)(h:GF m N t c r k)(l3:Int):
 B4 r k l3 (nG m N) (dr m t) (lU N c) (js m N t)=some (dr m (t.ca r k),lU N (fun j=>c j-c k*(t.T r j / t.T r k)),js m N (t.ca r k)):=by
 have sD : ∀j,(t.ca r k).T r j=t.T r j / t.T r k:=fun j=>by simp[b7.ca]
 have uR : ∀i j,i≠r->(t.ca r k).T i j=t.T i j-t.T i k*(t.T r j / t.T r k):=fun i j ab=>by simp[b7.ca,ab]
 unfold B4;refine cy (by unfold nG;rw[dX];omega) (aI (x:=some (r,N+1)) (by rw[dy];exact iQ ai) (aI (x:=(r,N+1)) rfl (aI (x:=hM N t r) (gN ai) ?_)));refine dn (aI (x:=cZ (t.T r k)) (by rw[dy];exact iQ (by omega)) ?_)
 obtain⟨s1,e1,-⟩:=iE (f:=fun w:Int×aio=>y9 r k (((N+1:Nat):Nat):Int) l3 (nG m N) (dr m t) (lU N c) (cZ (t.T r k)).fB.cS (cZ (t.T r k)).fB.cG (cZ (t.T r k)).hS w.1 w.2)
  (fun (i:Nat) (_:Unit)=>((i:Int),a2 m fun eG=>if eG=r then a2 (N+1) (fun j=>if j<i then cZ (t.T r j / t.T r k) else cZ (t.T r j)) else hM N t eG)) (N+1) (fun _ _=>True)
  (fun _=>a2 m fun eG=>if eG=r then hM N (t.ca r k) r else hM N t eG)
  (fun i ab _ _=>by
    refine⟨(),?_,trivial⟩;unfold y9;refine eF (cy (by unfold nG;rw[dX];omega) (aI (x:=some (r,N+1)) (by rw[dy];exact iQ ai) (aI (x:=(r,N+1)) rfl ?_)));refine aI (x:=a2 (N+1) (fun j=>if j<i then cZ (t.T r j / t.T r k) else cZ (t.T r j))) (by simp only;rw[gN ai,dw rfl]) ?_;refine dn (aI (x:=cZ (t.T r i)) (by simp only;rw[dy,iQ ab,dA (by omega)]) ?_);refine aI (Sb (h.T r ai i (by omega)) (h.T r ai k aZ) ae (by have:=h.iP r ai i (by omega);rw[sD] at this;exact this)) ?_;simp only;rw[fy (by omega),dy,dF,ly,ly];congr 3;refine eY fun eG _=> ?_;by_cases bl:eG=r
    ·rw[dw bl,dw bl]
     exact eY fun j _=>by
      by_cases b8:j=i
      ·subst b8;rw[dw rfl,dw (by omega)]
      rw[dA b8];by_cases jI:j<i
      ·rw[dw jI,dw (by omega)]
      rw[dA jI,dA (by omega)]
    rw[dA bl,dA bl,dA bl])
  (fun _ _=>by
    unfold y9;refine fl ?_;simp only;congr 2;refine eY fun eG _=> ?_;by_cases bl:eG=r
    ·rw[dw bl,dw bl];exact eY fun j au=>by rw[dw au,sD]
    rw[dA bl,dA bl]) () trivial
 refine aI (x:=a2 m fun eG=>if eG=r then hM N (t.ca r k) r else hM N t eG) ?_ ?_
 ·unfold NE
  have bH:(a2 m fun eG=>if eG=r then a2 (N+1) (fun j=>if j<0 then cZ (t.T r j / t.T r k) else cZ (t.T r j)) else hM N t eG)=js m N t:=eY fun eG _=>by
   by_cases bl:eG=r
   ·rw[dw bl,bl];exact eY fun j _=>dA (by omega)
   rw[dA bl]
  rw[bH] at e1;exact e1
 obtain⟨s2,aD,-⟩:=iE (f:=fun w:Int×aio=>za r k ((m:Nat):Int) l3 (nG m N) (dr m t) (lU N c) w.1 w.2)
  (fun (i:Nat) (_:Unit)=>((i:Int),a2 m fun eG=>if eG=r\/eG<i then hM N (t.ca r k) eG else hM N t eG)) m (fun _ _=>True)
  (fun _=>js m N (t.ca r k))
  (fun i ab _ _=>by
    refine⟨(),?_,trivial⟩;unfold za;refine eF (pj (fun cU=> ?_) (fun A3=> ?_))
    ·have Bs:i≠r:=by intro c;subst c;simp at cU
     refine cy (by unfold nG;rw[dX];simp only;omega) (aI (x:=some (i,N+1)) (by simp only;rw[dy];exact iQ ab) ?_);refine cy (by unfold nG;rw[dX];omega) (aI (x:=some (r,N+1)) (by rw[dy];exact iQ ai) ?_);refine aI (x:=(i,N+1)) rfl (aI (x:=(r,N+1)) rfl ?_);refine aI (x:=hM N t i) (by simp only;rw[gN ab,dA (by omega)]) (aI (x:=hM N (t.ca r k) r) (by simp only;rw[gN ai,dw (.inl rfl)]) ?_);refine dn ?_;refine aI (abz (N+1) (by omega) k (by omega) (fun j=>t.T i j) (fun j=>(t.ca r k).T r j) (fun j au=>h.T i ab j (by omega)) (fun j au=>h.iP r ai j (by omega)) (fun j au=>by rw[sD];exact h.M i ab Bs j (by omega)) (fun j au=>by have:=h.iP i ab j (by omega);rw[uR i j Bs] at this;rw[sD];exact this)) ?_;simp only;rw[fy (by omega),ly,ly];congr 3;refine eY fun eG _=> ?_;by_cases bl:eG=r
     ·rw[dw bl,dw (.inl bl),bl]
     rw[dA bl];by_cases b8:eG=i
     ·subst b8;rw[dw rfl,dw (.inr (by omega))];exact eY fun j _=>by rw[uR eG j Bs,sD]
     rw[dA b8];by_cases jI:eG<i
     ·rw[dw (.inr jI),dw (.inr (by omega))]
     rw[dA (by omega),dA (by omega)]
    have Bs:i=r:=(by simp at A3;omega);simp only;rw[fy (by omega)];congr 3;refine eY fun eG _=> ?_;by_cases bl:eG=r\/eG<i
    ·rw[dw bl,dw (by omega)]
    rw[dA bl,dA (by omega)])
  (fun _ _=>by unfold za;refine fl ?_;simp only;congr 2;exact eY fun eG jk=>dw (.inr jk)) () trivial
 refine aI (x:=js m N (t.ca r k)) ?_ ?_
 ·unfold NF
  rw[show ((nG m N).length:Nat)=m from dX ..]
  have bH:(a2 m fun eG=>if eG=r\/eG<0 then hM N (t.ca r k) eG else hM N t eG)=a2 m fun eG=>if eG=r then hM N (t.ca r k) r else hM N t eG:=eY fun eG _=>by
   by_cases bl:eG=r
   ·rw[dw (.inl bl),dw bl,bl]
   rw[dA (by omega),dA bl]
  rw[bH] at aD;exact aD
 refine aI (x:=hM N (t.ca r k) r) (gN ai) (dn ?_);refine aI (aaI (N+1) (by omega) k (by omega) c (fun j=>(t.ca r k).T r j) (fun j au=>h.a8 j (by omega)) (fun j au=>h.iP r ai j (by omega)) (fun j au=>by rw[sD];exact h.hm j (by omega)) (fun j au=>by rw[sD];exact h.ta j (by omega))) ?_;refine cy (by unfold lU;rw[dX,dX]) (cy (by unfold dr;rw[dX];omega) (cy (by unfold dr;rw[dX,dy];omega) ?_));congr 1;rw[dy,dF];congr 1
 ·unfold dr;rw[ly];exact eY fun i _=>by simp only[b7.ca];split<;>rfl
 congr 1
 ·exact eY fun j _=>by rw[sD]
 unfold js;rw[ly]
 exact eY fun i _=>by
  split
  ·rename_i bl;rw[bl]
  rfl
theorem abB {m:Nat}(hm:m<=1000)(t:b7)(l3:Int)(rows:aio)(cost:aif)(j:Nat): ∃b,Cj ⟨l3,rows,dr m t,cost⟩ (j:Int)=some b/\(b=true↔ ∃i,i<m/\t.B i=j):=by
 unfold Cj
 obtain⟨r,e,h⟩:=qy (f:=fun w:Int=>BJ j (dr m t) ((m:Nat):Int) w) (fun (i:Nat) (_:Unit)=>(i:Int)) m (fun i _=> ∀k,k<i->t.B k≠j) (fun r=>(r = .inr ()/\ ∃i,i<m/\t.B i=j)\/(r = .inl ()/\ ¬∃i,i<m/\t.B i=j))
  (fun i ab _ cA=>by
    unfold BJ;by_cases c:t.B i=j
    ·right;refine⟨_,eF (cy (by unfold dr;rw[dX];omega) (aI (x:=((t.B i:Nat):Int)) (by rw[dy];exact gN ab) (fK (by simp[c]) rfl))),.inl ⟨rfl,i,ab,c⟩⟩
    left;refine⟨(),eF (cy (by unfold dr;rw[dX];omega) (aI (x:=((t.B i:Nat):Int)) (by rw[dy];exact gN ab) (hI (by simp;omega) (by rw[fy (by omega)])))),fun k aZ=> ?_⟩;by_cases e:k=i
    ·rw[e];exact c
    exact cA k (by omega))
  (fun _ cA=>⟨_,fl rfl,.inr ⟨rfl,fun ⟨i,ab,e⟩=>cA i ab e⟩⟩) () (fun k aZ=>by omega)
 have ez:Ij j (dr m t) (len_ eI (dr m t)) 0=some r:=by unfold Ij;rw[gj,show (dr m t).length=m from dX ..];exact e
 rcases h with ⟨rfl,h⟩|⟨rfl,h⟩
 ·exact⟨true,aI ez rfl,by simp[h]⟩
 exact⟨false,aI ez rfl,by simp[h]⟩
theorem acd {N:Nat}(fV:N<1000)(l3:Int)(rows:aio)(kb:ar)(c:Nat->Rat){j:Nat}(au:j<=N)(a8:gu (c j)):wP ⟨l3,rows,kb,lU N c⟩ (j:Int) false=some (kd (c j)):=by
 unfold wP;refine cy (by unfold lU;rw[dX];omega) (aI (x:=cZ (c j)) (by rw[dy];exact gN (by omega)) (aI (ri a8) ?_));refine aI (x:= .inl (kd (c j))) ?_ rfl;unfold Oz;rw[iter];have:BM l3 rows kb (lU N c) (j:Int) false (kd (c j)) 0=some (.inr (.inl (kd (c j)))):=by unfold BM;exact pj (fun _=>rfl) (fun _=>rfl)
 simp only;rw[this];rfl
theorem FV {x y z w:Rat}(aR:0<y)(hw:0<w):(x / y<=z / w↔x*w<=z*y)/\(x / y=z / w↔x*w=z*y):=by
 have e1:x*w=(x / y)*(y*w):=by grind
 have aD:z*y=(z / w)*(y*w):=by grind
 have ae:0<y*w:=Rat.mul_pos aR hw;constructor
 ·rw[e1,aD]
  constructor
  ·intro h;exact Rat.mul_le_mul_of_nonneg_right h (Rat.le_of_lt ae)
  intro h;apply Classical.byContradiction;intro c;have:z / w<x / y:=(by grind);have:=Rat.mul_lt_mul_of_pos_right this ae;grind
 rw[e1,aD];constructor
 ·intro h;rw[h]
 intro h;have cU:y*w≠0:=by grind
 grind
def F5 (m N:Nat)(t:b7)(j:Nat)(r:Int):Prop :=
 (r = -1/\ ∀i,i<m-> ¬0<t.T i j)\/ ∃b:Nat,r=b/\b<m/\0<t.T b j/\(∀i,i<m->0<t.T i j->t.T b N*t.T i j<=t.T i N*t.T b j)/\(∀i,i<m->0<t.T i j->t.T b N*t.T i j=t.T i N*t.T b j->t.B b<=t.B i)
theorem abC {m N:Nat}(hm:m<=1000)(fV:N<1000)(t:b7)(l3:Int)(cost:aif){j:Nat}(au:j<=N)(hN:∀i,i<m-> ∀j,j<=N->gu (t.T i j))(a1:∀i,i<m->0<t.T i j->gu (t.T i N / t.T i j)):
 ∃r,Cl ⟨l3,js m N t,dr m t,cost⟩ (j:Int)=some r/\F5 m N t j r:=by
 unfold Cl
 obtain⟨r,e,h⟩:=qy (f:=fun w:Int×Int×Bool×ar×ar=>zj l3 (js m N t) (dr m t) cost j ((m:Nat):Int) w.1 w.2.1 w.2.2.1 w.2.2.2.1 w.2.2.2.2)
  (fun (i:Nat) (s:Int×bc)=>(s.1,(i:Int),s.2.fB.cS,s.2.fB.cG,s.2.hS)) m
  (fun n s=>(s.1 = -1/\ ∀i,i<n-> ¬0<t.T i j)\/ ∃b:Nat,s.1=b/\b<n/\0<t.T b j/\s.2=cZ (t.T b N / t.T b j)/\ ∀i,i<n->0<t.T i j->t.T b N / t.T b j<t.T i N / t.T i j\/(t.T b N / t.T b j=t.T i N / t.T i j/\t.B b<=t.B i))
  (fun r=>F5 m N t j r)
  (fun n aX s cA=>by
    left;unfold zj;have g1:0<=((n:Nat):Int)/\((n:Nat):Int)<((js m N t).length:Nat):=(by unfold js;rw[dX];omega);have g2:(js m N t)[((n:Nat):Int).toNat]? = some (hM N t n):=(by rw[dy];exact gN aX);have g3:0<=((j:Nat):Int)/\((j:Nat):Int)<((hM N t n).length:Nat):=(by unfold hM;rw[dX];omega);have g4:(hM N t n)[((j:Nat):Int).toNat]? = some (cZ (t.T n j)):=(by rw[dy];exact gN (by omega));have j5:R ((n:Int)+1)=((n+1:Nat):Int):=fy (by omega);have wl:R (len_ bn (hM N t n)-1)=(N:Int):=(by rw[ff,show (hM N t n).length=N+1 from dX ..,ch (by omega) (by omega)];omega);by_cases ae:0<t.T n j
    ·have bX : ¬kd (t.T n j)<=0:=by have:=r3.2 ae;omega
     have g5:0<=R (len_ bn (hM N t n)-1)/\R (len_ bn (hM N t n)-1)<((hM N t n).length:Nat):=(by rw[wl];unfold hM;rw[dX];omega);have g6:(hM N t n)[(R (len_ bn (hM N t n)-1)).toNat]? = some (cZ (t.T n N)):=(by rw[wl,dy];exact gN (by omega));have g7:wU (cZ (t.T n N)) (cZ (t.T n j))=some (cZ (t.T n N / t.T n j)):=Sb (hN n aX N (by omega)) (hN n aX j au) (by grind) (a1 n aX ae);rcases cA with ⟨h1,o⟩|⟨b,h1,aL,j2,o,aa⟩
     ·refine⟨((n:Int),cZ (t.T n N / t.T n j)),eF (cy g1 (aI g2 (cy g3 (aI g4 (aI (ri (hN n aX j au)) (k1 bX (cy g5 (aI g6 (aI g7 (eF ?_)))))))))),.inr ⟨n,rfl,by omega,ae,rfl,fun i ab i2=> ?_⟩⟩
      ·simp only;rw[j5]
      by_cases c:i=n
      ·subst c;exact .inr ⟨rfl,dG _⟩
      exact(o i (by omega) i2).elim
     have g8:wV (cZ (t.T n N / t.T n j)) (⟨(⟨s.2.fB.cS,s.2.fB.cG⟩:bI),s.2.hS⟩:bc)=some (if t.T n N / t.T n j<t.T b N / t.T b j then -1 else if t.T b N / t.T b j<t.T n N / t.T n j then 1 else 0):=(by have:(⟨(⟨s.2.fB.cS,s.2.fB.cG⟩:bI),s.2.hS⟩:bc)=cZ (t.T b N / t.T b j):=o;rw[this];exact acM (a1 n aX ae) (a1 b (by omega) j2));by_cases bl:t.T n N / t.T n j<t.T b N / t.T b j
     ·rw[dw bl] at g8
      refine⟨((n:Int),cZ (t.T n N / t.T n j)),eF (cy g1 (aI g2 (cy g3 (aI g4 (aI (ri (hN n aX j au)) (k1 bX (cy g5 (aI g6 (aI g7 (fl (aI g8 (eF ?_)))))))))))),.inr ⟨n,rfl,by omega,ae,rfl,fun i ab i2=> ?_⟩⟩
      ·simp only;rw[j5]
      by_cases c:i=n
      ·subst c;exact .inr ⟨rfl,dG _⟩
      rcases aa i (by omega) i2 with h|⟨h,-⟩
      ·left;grind
      left;rw[<- h];exact bl
     rw[dA bl] at g8;by_cases b8:t.T b N / t.T b j<t.T n N / t.T n j
     ·rw[dw b8] at g8
      refine⟨s,eF (cy g1 (aI g2 (cy g3 (aI g4 (aI (ri (hN n aX j au)) (k1 bX (cy g5 (aI g6 (aI g7 (fl (aI g8 (fl (hI (by decide) ?_))))))))))))),.inr ⟨b,h1,by omega,j2,o,fun i ab i2=> ?_⟩⟩
      ·simp only;rw[j5]
      by_cases c:i=n
      ·subst c;exact .inl b8
      exact aa i (by omega) i2
     rw[dA b8] at g8;have LB:t.T b N / t.T b j=t.T n N / t.T n j:=(by grind);have Hm:0<=((n:Nat):Int)/\((n:Nat):Int)<((dr m t).length:Nat):=(by unfold dr;rw[dX];omega);have Hn:(dr m t)[((n:Nat):Int).toNat]? = some ((t.B n:Nat):Int):=(by rw[dy];exact gN aX);have TS:0<=s.1/\s.1<((dr m t).length:Nat):=(by unfold dr;rw[dX];omega);have TT:(dr m t)[s.1.toNat]? = some ((t.B b:Nat):Int):=(by rw[h1,dy];exact gN (by omega));by_cases jI:t.B n<t.B b
     ·refine⟨((n:Int),cZ (t.T n N / t.T n j)),eF (cy g1 (aI g2 (cy g3 (aI g4 (aI (ri (hN n aX j au)) (k1 bX (cy g5 (aI g6 (aI g7 (fl (aI g8 (fl (fK rfl (cy Hm (aI Hn (cy TS (aI TT (eF ?_)))))))))))))))))),.inr ⟨n,rfl,by omega,ae,rfl,fun i ab i2=> ?_⟩⟩
      ·simp only;rw[j5]
      by_cases c:i=n
      ·subst c;exact .inr ⟨rfl,dG _⟩
      rcases aa i (by omega) i2 with h|⟨h,cF⟩
      ·left;grind
      right;exact⟨by grind,by omega⟩
     refine⟨s,eF (cy g1 (aI g2 (cy g3 (aI g4 (aI (ri (hN n aX j au)) (k1 bX (cy g5 (aI g6 (aI g7 (fl (aI g8 (fl (fK rfl (cy Hm (aI Hn (cy TS (aI TT (fl ?_)))))))))))))))))),.inr ⟨b,h1,by omega,j2,o,fun i ab i2=> ?_⟩⟩
     ·simp only;rw[j5]
     by_cases c:i=n
     ·subst c;exact .inr ⟨LB,by omega⟩
     exact aa i (by omega) i2
    have bX:kd (t.T n j)<=0:=(by have : ¬0<kd (t.T n j):=fun c=>ae (r3.1 c);omega);refine⟨s,eF (cy g1 (aI g2 (cy g3 (aI g4 (aI (ri (hN n aX j au)) (k0 bX ?_)))))),?_⟩
    ·simp only;rw[j5]
    rcases cA with ⟨h1,o⟩|⟨b,h1,aL,j2,o,aa⟩
    ·exact .inl ⟨h1,fun i ab=>if c:i=n then c▸ae else o i (by omega)⟩
    exact .inr ⟨b,h1,by omega,j2,o,fun i ab i2=>if c:i=n then (ae (c▸i2)).elim else aa i (by omega) i2⟩)
  (fun s cA=>by
    refine⟨s.1,by unfold zj;exact fl rfl,?_⟩;rcases cA with ⟨h1,o⟩|⟨b,h1,aL,j2,o,aa⟩
    ·exact .inl ⟨h1,o⟩
    refine .inr ⟨b,h1,aL,j2,fun i ab i2=> ?_,fun i ab i2 he=> ?_⟩
    ·rw[<- (FV j2 i2).1]
     rcases aa i ab i2 with h|⟨h,-⟩
     ·exact Rat.le_of_lt h
     rw[h];exact Rat.le_refl
    rw[<- (FV j2 i2).2] at he;rcases aa i ab i2 with h|⟨-,h⟩
    ·rw[he] at h;grind
    exact h) ((-1:Int),(⟨⟨false,[]⟩,[]⟩:bc)) (.inl ⟨rfl,fun i ab=>by omega⟩)
 refine⟨r,aI ?_ rfl,h⟩;unfold Of;rw[ff,show (js m N t).length=m from dX ..];exact e
theorem Dh {m N:Nat}(t:b7):(nG m N).all (sq (js m N t))=true:=by
 rw[List.all_eq_true];intro x U;obtain⟨i,ab,rfl⟩:=JJ.1 U;simp only[sq];have h1:(js m N t).length=m:=dX ..;have o:(js m N t).getD i []=hM N t i:=by rw[ahX,show (js m N t)[i]? = some (hM N t i) from gN ab];rfl
 rw[h1,o,show (hM N t i).length=N+1 from dX ..];simp[ab]
theorem xp {m N:Nat}(t:b7):(nG m N).map (i7 (js m N t))=js m N t:=by unfold nG;rw[Rx];exact eY fun i ab=>by have o:(js m N t).getD i []=hM N t i:=(by rw[ahX,show (js m N t)[i]? = some (hM N t i) from gN ab];rfl);simp only[i7];rw[o];exact dQ (Nat.le_of_eq (dX ..))
theorem abD {m N:Nat}(hm:m<=1000)(fV:N<1000)(t:b7)(c:Nat->Rat)(deep:Bool)(G:Nat->Prop)(afH:∀j,G j-> ∀i,i<m->t.B i≠j)
 (bX : ∀j,j<N-> ∃g,wP ⟨N,js m N t,dr m t,lU N c⟩ (j:Int) deep=some g/\((∀i,i<m->t.B i≠j)->(0<g↔G j))) :
 ∃r,Ik deep N (nG m N) (dr m t) (lU N c) (js m N t) (-1) 0=some r/\((r = -1/\ ∀j,j<N-> ¬G j)\/ ∃s:Nat,r=s/\s<N/\G s/\ ∀j,j<s-> ¬G j):=by
 unfold Ik
 refine qy (f:=fun w:Int×Int=>wt deep N (nG m N) (dr m t) (lU N c) (js m N t) w.1 w.2) (fun (i:Nat) (e:Int)=>(e,(i:Int))) N
  (fun n e=>(e = -1/\ ∀j,j<n-> ¬G j)\/ ∃s:Nat,e=s/\s<N/\G s/\ ∀j,j<s-> ¬G j) _ (fun n aX e cA=> ?_) (fun e cA=> ?_) (-1) (.inl ⟨rfl,fun j au=>by omega⟩)
 ·rcases cA with ⟨rfl,h⟩|⟨s,rfl,x5,us,ae6⟩
  ·left
   obtain⟨b,e1,aD⟩:=abB hm t (N:Int) (js m N t) (lU N c) n;obtain⟨g,g1,g2⟩:=bX n aX;unfold wt
   cases b with
   | true =>
    obtain⟨i,ab,GY⟩:=aD.1 rfl;refine⟨-1,eF (k0 (by simp) (cy (Dh t) (aI (by rw[xp];exact e1) (fK rfl ?_)))),.inl ⟨rfl,fun j au dj=> ?_⟩⟩
    ·simp only;rw[fy (by omega)]
    by_cases c:j=n
    ·subst c;exact afH j dj i ab GY
    exact h j (by omega) dj
   | false =>
    have TU : ∀i,i<m->t.B i≠n:=fun i ab e=>(by have:=aD.2 ⟨i,ab,e⟩;simp at this);by_cases dj:G n
    ·refine⟨(n:Int),eF (k0 (by simp) (cy (Dh t) (aI (by rw[xp];exact e1) (hI rfl (aI (by rw[xp];exact g1) (k0 ((g2 TU).2 dj) ?_)))))),.inr ⟨n,rfl,aX,dj,h⟩⟩;simp only;rw[fy (by omega)]
    refine⟨-1,eF (k0 (by simp) (cy (Dh t) (aI (by rw[xp];exact e1) (hI rfl (aI (by rw[xp];exact g1) (k1 (fun x=>dj ((g2 TU).1 x)) ?_)))))),.inl ⟨rfl,fun j au=>if c:j=n then c▸dj else h j (by omega)⟩⟩;simp only;rw[fy (by omega)]
  right;exact⟨(s:Int),by unfold wt;exact eF (fl rfl),.inr ⟨s,rfl,x5,us,ae6⟩⟩
 exact⟨e,by unfold wt;exact fl rfl,cA⟩
theorem b7.Ze {eo m N K:Nat}{A obj:Nat->Nat->Rat}{t:b7}(h:gv eo m N A t){j:Nat}(g:t.sy m K obj j): ∀i,i<m->t.B i≠j :=
 fun i ab e=>ib.not_zero g fun l _=>by rw[<- e];exact h.Ad (obj l) ab
theorem acN {eo m N K:Nat}(hm:m<=1000)(fV:N<1000){A obj:Nat->Nat->Rat}(deep:Bool)(Inv:b7->Prop)
 (inv : ∀t,Inv t->gv eo m N A t/\t.lC m N) (gW : ∀t r s,Inv t->o6 m N K obj (fun _=>True) t r s->Inv (t.ca r s))
 (bX : ∀t,Inv t-> ∀j,j<N-> ∃g,wP ⟨N,js m N t,dr m t,lU N (t.cR m (obj 0))⟩ (j:Int) deep=some g/\((∀i,i<m->t.B i≠j)->(0<g↔t.sy m K obj j)))
 (hN : ∀t,Inv t-> ∀i,i<m-> ∀j,j<=N->gu (t.T i j)) (a1 : ∀t,Inv t-> ∀i,i<m-> ∀j,j<=N->0<t.T i j->gu (t.T i N / t.T i j))
 (ae : ∀t,Inv t-> ∀r k,r<m->k<N->t.T r k≠0->GF m N t (t.cR m (obj 0)) r k) (t:b7) (cb:Inv t) :
 ∃b c2,z1 deep N (nG m N) (dr m t) (lU N (t.cR m (obj 0))) (js m N t)=some (b,dr m c2,lU N (c2.cR m (obj 0)),js m N c2)/\Inv c2 /\
  ((b=true/\ ∀j,j<N-> ¬c2.sy m K obj j)\/(b=false/\ ∃s,s<N/\c2.sy m K obj s/\ ∀i,i<m-> ¬0<c2.T i s)):=by
 obtain⟨x,dU,c2,e,⟨Tg,cA⟩,-,-,en⟩:=P3 (eo:=eo) (m:=m) (N:=N) (K:=K) (A:=A) (obj:=obj) (bU:=fun _=>True)
  (f:=fun w:ar×aif×aio=>BK deep N (nG m N) w.1 w.2.1 w.2.2)
  (fun a t=>a=(dr m t,lU N (t.cR m (obj 0)),js m N t)/\Inv t)
  (fun a x t=> ∃b,x=(b,dr m t,lU N (t.cR m (obj 0)),js m N t)/\((b=true/\ ∀j,j<N-> ¬t.sy m K obj j)\/(b=false/\ ∃s,s<N/\t.sy m K obj s/\ ∀i,i<m-> ¬0<t.T i s)))
  (fun a t cH ok lh=>by
    obtain⟨rfl,cA⟩:=cH;obtain⟨r,e1,aD⟩:=abD hm fV t (t.cR m (obj 0)) deep (t.sy m K obj) (fun j dj=>b7.Ze ok dj) (bX t cA);simp only;unfold BK;rcases aD with ⟨rfl,h⟩|⟨s,rfl,Ho,dj,aO⟩
    ·left;exact⟨_,aI e1 (k0 (by decide) rfl),true,rfl,.inl ⟨rfl,h⟩⟩
    obtain⟨q,q1,a0⟩:=abC hm fV t (N:Int) (lU N (t.cR m (obj 0))) (j:=s) (by omega) (hN t cA) (fun i ab i2=>a1 t cA i ab s (by omega) i2);rcases a0 with ⟨rfl,h⟩|⟨b,rfl,aL,j2,h1,o⟩
    ·left;exact⟨_,aI e1 (fl (cy (Dh t) (aI (by rw[xp];exact q1) (k0 (by decide) rfl)))),false,rfl,.inr ⟨rfl,s,Ho,dj,h⟩⟩
    right;have c3:o6 m N K obj (fun _=>True) t b s:=⟨Ho,trivial,dj,fun j au _=>aO j au,aL,j2,h1,o⟩;refine⟨_,b,s,aI e1 (fl (cy (Dh t) (aI (by rw[xp];exact q1) (fl (aI (abA hm fV aL (by omega) (by grind) (ae t cA b s aL Ho (by grind)) N) rfl))))),c3,?_,gW t b s cA c3⟩;refine Prod.ext rfl (Prod.ext ?_ rfl);exact eY fun j _=>by rw[ok.Jx (obj 0) aL Ho (by grind)])
  (a:=(dr m t,lU N (t.cR m (obj 0)),js m N t)) (t:=t) ⟨rfl,cb⟩ (inv t cb).1 (inv t cb).2
 obtain⟨b,rfl,aL⟩:=en;refine⟨b,c2,?_,cA,aL⟩;unfold z1;exact aI (x:=(b,dr m c2,lU N (c2.cR m (obj 0)),js m N c2)) (by unfold Og;exact e) rfl
structure nb (p:j6) (m n:Nat) (a:Nat->Nat->Int) (b:Nat->Int):Prop where
 rows:p.ix=m
 gK:p.gz=n
 gM:p.dq.length=m*n
 DX : ∀i,i<m-> ∀j,j<n->p.dq[i*n+j]? = some (a i j)
 yt:p.d4.length=m
 GG : ∀i,i<m->p.d4[i]? = some (b i)
 hm:m<=20
 aX:n<=40
 uS : ∀i,i<m-> ∀j,j<n-> -100<=a i j/\a i j<=100
 ys : ∀i,i<m-> -100<=b i/\b i<=100
theorem ug {p:j6}{m n:Nat}{a:Nat->Nat->Int}{b:Nat->Int}(h:nb p m n a b){i:Nat}(ab:i<m)(j:Nat): -100<=kM m n a b i j/\kM m n a b i j<=100:=by
 have aL:=h.ys i ab;unfold kM kj;by_cases c:j<n
 ·have bC:=h.uS i ab j c;rw[dw c];split<;>omega
 rw[dA c];split
 ·split<;>omega
 split<;>omega
theorem Kh {p:j6}{m n:Nat}{a:Nat->Nat->Int}{b:Nat->Int}(h:nb p m n a b){i:Nat}(ab:i<m)(j:Nat):eg 100 (c8 m n a b i j) :=
 ⟨kM m n a b i j,rfl,by have:=ug h ab j;omega⟩
theorem ace:(1000000000000000000:Int)<B 24:=by decide
theorem Jj {K:Nat}{x:Rat}(h:eg K x)(aZ:K<=1000000000000000000):gu x:=by obtain⟨z,rfl,cj⟩:=h;have:=ace;exact Q9 (n:=z) (d:=1) (by decide) (by rw[show ((1:Int):Rat)=1 from rfl];grind) (by omega) (by omega)
theorem Sc {p:j6}{m n:Nat}{a:Nat->Nat->Int}{b:Nat->Int}(h:nb p m n a b){i:Nat}(ab:i<m):z7 p i=some (a2 n (a i)):=by
 have hm:=h.hm;have aX:=h.aX;have h1:i*n<=20*40:=Nat.mul_le_mul (by omega) aX;have o:(i+1)*n<=20*40:=Nat.mul_le_mul (by omega) aX;have aa:(i+1)*n<=m*n:=ahY _ ab;have e1:R ((i:Int)*p.gz)=((i*n:Nat):Int):=by rw[h.gK,<- Int.natCast_mul,ch (by omega) (by omega)]
 have aD:R (R ((i:Int)+1)*p.gz)=(((i+1)*n:Nat):Int):=by rw[h.gK,fy (by omega),<- Int.natCast_mul,ch (by omega) (by omega)]
 have ao:(i+1)*n=i*n+n:=Nat.succ_mul i n;unfold z7;rw[e1,aD,dy,dy,h.gM];refine dn (dn (dn ?_));congr 1;apply ah7;intro j;rw[ahZ,ah5];by_cases c:j<n
 ·rw[dw (by omega),h.DX i ab j c,gN c]
 rw[dA (by omega)]
 symm
 rw[List.getElem?_eq_none_iff,dX];omega
def hF (m n:Nat)(a:Nat->Nat->Int)(b:Nat->Int)(i j:Nat):Rat:=if j<n\/j=n+m then cq i (fun k=>c8 m n a b k j) else 0
theorem Sz {p:j6}{m n:Nat}{a:Nat->Nat->Int}{b:Nat->Int}(h:nb p m n a b){i:Nat}(ab:i<=m)(j:Nat):eg 2000 (hF m n a b i j):=by
 have hm:=h.hm;unfold hF;split
 ·exact(eg.sum fun k aZ=>Kh h (by omega) j).mono (by omega)
 exact⟨0,rfl,by omega⟩
theorem Yr {p:j6}{m n:Nat}{a:Nat->Nat->Int}{b:Nat->Int}(h:nb p m n a b){i:Nat}(ab:i<m)(aL:b i<0)(x0:Int)(a0:aim)(bQ:aio)(cr:ar)(dk:aif):
 (H6 (i:Int) (a2 n (a i)) (len_ eI (a2 n (a i))) p.ix p.gz p.dq p.d4 p.jb x0 a0 bQ cr dk 0 ([]:aif) >>= fun c6=>H7 (i:Int) p.ix p.gz p.dq p.d4 p.jb x0 a0 bQ cr dk 0 c6)=some (a2 (n+m) fun j=>cZ (c8 m n a b i j)):=by
 have hm:=h.hm;have aX:=h.aX;have bX:kj (b i) = -1:=by unfold kj;rw[dw aL]
 obtain⟨s1,e1,-⟩:=iE (f:=fun w:Int×aif=>y5 (i:Int) (a2 n (a i)) ((n:Nat):Int) p.ix p.gz p.dq p.d4 p.jb x0 a0 bQ cr dk w.1 w.2)
  (fun (k:Nat) (_:Unit)=>((k:Int),a2 k fun j=>cZ (c8 m n a b i j))) n (fun _ _=>True) (fun _=>a2 n fun j=>cZ (c8 m n a b i j))
  (fun k aZ _ _=>by
    refine⟨(),?_,trivial⟩;have bC:=h.uS i ab k aZ;unfold y5;have e:R ((-1:Int)*a i k)=kM m n a b i k:=(by rw[ch (by omega) (by omega)];unfold kM;rw[dw aZ,bX]);refine eF (dn (aI (x:=a i k) (by simp only;rw[dy];exact gN aZ) (aI (x:=cZ (c8 m n a b i k)) ?_ (cy (by simp only[dE,dX,dI,dM];omega) ?_))))
    ·rw[e];exact tY (by have:=ug h ab k;rw[nw];omega)
    simp only;rw[fy (by omega),lN])
  (fun _ _=>by unfold y5;exact fl rfl) () trivial
 refine aI (x:=a2 n fun j=>cZ (c8 m n a b i j)) (by unfold H6;rw[gj,dX];exact e1) ?_
 obtain⟨s2,aD,-⟩:=iE (f:=fun w:Int×aif=>y6 (i:Int) p.ix p.gz p.dq p.d4 p.jb x0 a0 bQ cr dk w.1 w.2)
  (fun (k:Nat) (_:Unit)=>((k:Int),a2 (n+k) fun j=>cZ (c8 m n a b i j))) m (fun _ _=>True) (fun _=>a2 (n+m) fun j=>cZ (c8 m n a b i j))
  (fun k aZ _ _=>by
    refine⟨(),?_,trivial⟩;unfold y6
    have EY:kM m n a b i (n+k)=if k=i then 1 else 0:=by
     unfold kM;rw[dA (by omega),dA (by omega)];by_cases c:k=i
     ·rw[dw c,dw (by omega)]
     rw[dA c,dA (by omega)]
    refine k0 (by simp only;rw[h.rows];omega) (pj (fun c=> ?_) (fun c=> ?_))
    ·have ya:k=i:=(by simp at c;omega);refine aI (x:=cZ (c8 m n a b i (n+k))) (by unfold c8;rw[EY,dw ya];exact tY (by rw[nw];omega)) (cy (by simp only[dE,dX,dI,dM];omega) ?_);simp only;rw[fy (by omega),<- Nat.add_assoc,lN]
    have ya:k≠i:=(by simp at c;omega);refine aI (x:=cZ (c8 m n a b i (n+k))) (by unfold c8;rw[EY,dA ya];exact tY (by rw[nw];omega)) (cy (by simp only[dE,dX,dI,dM];omega) ?_);simp only;rw[fy (by omega),<- Nat.add_assoc,lN])
  (fun _ _=>by unfold y6;exact k1 (by simp only;rw[h.rows];omega) rfl) () trivial
 unfold H7;exact aD
theorem Ys {p:j6}{m n:Nat}{a:Nat->Nat->Int}{b:Nat->Int}(h:nb p m n a b){i:Nat}(ab:i<m)(aL:¬b i<0)(x0:Int)(a0:aim)(bQ:aio)(cr:ar)(dk:aif):
 (H0 (i:Int) (a2 n (a i)) (len_ eI (a2 n (a i))) p.ix p.gz p.dq p.d4 p.jb x0 a0 bQ cr dk 0 ([]:aif) >>= fun c6=>H2 (i:Int) p.ix p.gz p.dq p.d4 p.jb x0 a0 bQ cr dk 0 c6)=some (a2 (n+m) fun j=>cZ (c8 m n a b i j)):=by
 have hm:=h.hm;have aX:=h.aX;have bX:kj (b i)=1:=by unfold kj;rw[dA aL]
 obtain⟨s1,e1,-⟩:=iE (f:=fun w:Int×aif=>yV (i:Int) (a2 n (a i)) ((n:Nat):Int) p.ix p.gz p.dq p.d4 p.jb x0 a0 bQ cr dk w.1 w.2)
  (fun (k:Nat) (_:Unit)=>((k:Int),a2 k fun j=>cZ (c8 m n a b i j))) n (fun _ _=>True) (fun _=>a2 n fun j=>cZ (c8 m n a b i j))
  (fun k aZ _ _=>by
    refine⟨(),?_,trivial⟩;have bC:=h.uS i ab k aZ;unfold yV;have e:R ((1:Int)*a i k)=kM m n a b i k:=(by rw[ch (by omega) (by omega)];unfold kM;rw[dw aZ,bX]);refine eF (dn (aI (x:=a i k) (by simp only;rw[dy];exact gN aZ) (aI (x:=cZ (c8 m n a b i k)) ?_ (cy (by simp only[dE,dX,dI,dM];omega) ?_))))
    ·rw[e];exact tY (by have:=ug h ab k;rw[nw];omega)
    simp only;rw[fy (by omega),lN])
  (fun _ _=>by unfold yV;exact fl rfl) () trivial
 refine aI (x:=a2 n fun j=>cZ (c8 m n a b i j)) (by unfold H0;rw[gj,dX];exact e1) ?_
 obtain⟨s2,aD,-⟩:=iE (f:=fun w:Int×aif=>yW (i:Int) p.ix p.gz p.dq p.d4 p.jb x0 a0 bQ cr dk w.1 w.2)
  (fun (k:Nat) (_:Unit)=>((k:Int),a2 (n+k) fun j=>cZ (c8 m n a b i j))) m (fun _ _=>True) (fun _=>a2 (n+m) fun j=>cZ (c8 m n a b i j))
  (fun k aZ _ _=>by
    refine⟨(),?_,trivial⟩;unfold yW
    have EY:kM m n a b i (n+k)=if k=i then 1 else 0:=by
     unfold kM;rw[dA (by omega),dA (by omega)];by_cases c:k=i
     ·rw[dw c,dw (by omega)]
     rw[dA c,dA (by omega)]
    refine k0 (by simp only;rw[h.rows];omega) (pj (fun c=> ?_) (fun c=> ?_))
    ·have ya:k=i:=(by simp at c;omega);refine aI (x:=cZ (c8 m n a b i (n+k))) (by unfold c8;rw[EY,dw ya];exact tY (by rw[nw];omega)) (cy (by simp only[dE,dX,dI,dM];omega) ?_);simp only;rw[fy (by omega),<- Nat.add_assoc,lN]
    have ya:k≠i:=(by simp at c;omega);refine aI (x:=cZ (c8 m n a b i (n+k))) (by unfold c8;rw[EY,dA ya];exact tY (by rw[nw];omega)) (cy (by simp only[dE,dX,dI,dM];omega) ?_);simp only;rw[fy (by omega),<- Nat.add_assoc,lN])
  (fun _ _=>by unfold yW;exact k1 (by simp only;rw[h.rows];omega) rfl) () trivial
 unfold H2;exact aD
theorem Qa {p:j6}{m n:Nat}{a:Nat->Nat->Int}{b:Nat->Int}(h:nb p m n a b){i:Nat}(ab:i<m)(a0:aio)(bQ:aim)(cr:ar)(a1:a0[i]? = some (a2 (n+m+1) fun j=>cZ (c8 m n a b i j))):
 Fa (i:Int) i (n+m+1) (((n+m+1:Nat):Nat):Int) p.ix p.gz p.dq p.d4 p.jb ((n+m:Nat):Int) a0 bQ cr 0 (a2 (n+m+1) fun j=>cZ (hF m n a b i j))=some (a2 (n+m+1) fun j=>cZ (hF m n a b (i+1) j)):=by
 have hm:=h.hm;have aX:=h.aX;have afI : ∀j,gu (c8 m n a b i j):=fun j=>Jj (Kh h ab j) (by omega);have f1 : ∀j,gu (hF m n a b i j):=fun j=>Jj (Sz h (by omega) j) (by omega);have f2 : ∀j,gu (hF m n a b (i+1) j):=fun j=>Jj (Sz h (by omega) j) (by omega);have es : ∀j,(j<n\/j=n+m)->hF m n a b i j+c8 m n a b i j=hF m n a b (i+1) j:=fun j au=>by unfold hF;rw[dw au,dw au,cq]
 have afJ : ∀j,¬(j<n\/j=n+m)->hF m n a b i j=hF m n a b (i+1) j:=fun j au=>by unfold hF;rw[dA au,dA au]
 obtain⟨s,e,-⟩:=iE (f:=fun w:Int×aif=>y7 (i:Int) i (n+m+1) (((n+m+1:Nat):Nat):Int) p.ix p.gz p.dq p.d4 p.jb ((n+m:Nat):Int) a0 bQ cr w.1 w.2)
  (fun (k:Nat) (_:Unit)=>((k:Int),a2 (n+m+1) fun j=>cZ (if j<k then hF m n a b (i+1) j else hF m n a b i j))) (n+m+1) (fun _ _=>True) (fun _=>a2 (n+m+1) fun j=>cZ (hF m n a b (i+1) j))
  (fun k aZ _ _=>by
    refine⟨(),?_,trivial⟩
    have fin : ∀r,r=hF m n a b (i+1) k->(R ((k:Int)+1),(a2 (n+m+1) fun j=>cZ (if j<k then hF m n a b (i+1) j else hF m n a b i j)).set (0+((k:Int)).toNat) (cZ r))=(((k+1:Nat):Int),a2 (n+m+1) fun j=>cZ (if j<k+1 then hF m n a b (i+1) j else hF m n a b i j)):=by
     intro r ai;rw[fy (by omega),dy,dF,ly];congr 1;refine eY fun j _=> ?_;by_cases c:j=k
     ·subst c;rw[dw rfl,dw (by omega),ai]
     rw[dA c];by_cases b8:j<k
     ·rw[dw b8,dw (by omega)]
     rw[dA b8,dA (by omega)]
    have Un : ∀ {x:Option ((Int×aif)⊕aif)},(k<n\/k=n+m)->(∀r,(R ((k:Int)+1),(a2 (n+m+1) fun j=>cZ (if j<k then hF m n a b (i+1) j else hF m n a b i j)).set (0+((k:Int)).toNat) (cZ r))=(((k+1:Nat):Int),a2 (n+m+1) fun j=>cZ (if j<k+1 then hF m n a b (i+1) j else hF m n a b i j))->some (Sum.inl (R ((k:Int)+1),(a2 (n+m+1) fun j=>cZ (if j<k then hF m n a b (i+1) j else hF m n a b i j)).set (0+((k:Int)).toNat) (cZ r)))=x) ->
     (if 0<=(k:Int)/\(k:Int)<(((a2 (n+m+1) fun j=>cZ (if j<k then hF m n a b (i+1) j else hF m n a b i j)).length:Nat):Int) then
       (a2 (n+m+1) fun j=>cZ (if j<k then hF m n a b (i+1) j else hF m n a b i j))[(0+((k:Int)).toNat)]? >>= fun fE =>
       a0[i]? >>= fun nW =>
       if 0<=(k:Int)/\(k:Int)<((n+m+1:Nat):Int) then
       nW[(0+((k:Int)).toNat)]? >>= fun c7 =>
       sM fE c7 >>= fun da =>
       if (0+((k:Int)).toNat)<(a2 (n+m+1) fun j=>cZ (if j<k then hF m n a b (i+1) j else hF m n a b i j)).length then
       some (.inl (R ((k:Int)+(1:Int)),(a2 (n+m+1) fun j=>cZ (if j<k then hF m n a b (i+1) j else hF m n a b i j)).set (0+((k:Int)).toNat) da))
       else none
       else none
       else none)=x:=by
     intro x G6 U;refine dn (aI (x:=cZ (hF m n a b i k)) (by rw[dy,iQ aZ,dA (by omega)]) (aI a1 (dn (aI (x:=cZ (c8 m n a b i k)) (by rw[dy];exact iQ aZ) (aI (J6 (f1 k) (afI k) (by rw[es k G6];exact f2 k)) (dn ?_))))));exact U _ (fin _ (es k G6))
    unfold y7;refine eF (pj (fun c=> ?_) (fun c=> ?_))
    ·have LC:k<n:=(by have:=of_decide_eq_true c;rw[h.gK] at this;simp only at this;omega);exact Un (.inl LC) fun r ai=>by rw[ai]
    have LC : ¬k<n:=(by have:=of_decide_eq_false c;rw[h.gK] at this;simp only at this;omega);refine pj (fun b8=> ?_) (fun b8=> ?_)
    ·have TV:k=n+m:=(by simp at b8;omega);exact Un (.inr TV) fun r ai=>by rw[ai]
    have TV:k≠n+m:=(by simp at b8;omega);simp only;rw[fy (by omega)];congr 3;refine eY fun j _=> ?_;by_cases jI:j=k
    ·subst jI;rw[dA (by omega),dw (by omega),afJ j (by omega)]
    by_cases pU:j<k
    ·rw[dw pU,dw (by omega)]
    rw[dA pU,dA (by omega)])
  (fun _ _=>by unfold y7;refine fl ?_;simp only;congr 2;exact eY fun j au=>by rw[dw au]) () trivial
 unfold Fa;have bH:(a2 (n+m+1) fun j=>cZ (if j<0 then hF m n a b (i+1) j else hF m n a b i j))=a2 (n+m+1) fun j=>cZ (hF m n a b i j):=eY fun j _=>by rw[dA (by omega)]
 rw[bH] at e;exact e
theorem vu {K:Nat}{d x y:Rat}(bF:eg K d)(aR:eg K y)(h0:d≠0)(e:d*x=y)(h8:(K:Int)<B 24):gu x:=by obtain⟨z,rfl,cj⟩:=bF;obtain⟨w,rfl,hw⟩:=aR;exact Q9 (n:=w) (d:=z) (fun c=>h0 (by rw[c];rfl)) e (by omega) (by omega)
@[irreducible] def fL:Nat:=rJ 100 20
theorem Dx:rJ 100 20=fL:=by unfold fL;rfl
theorem acO:((21*100*(fL*fL):Nat):Int)<B 24:=by decide +kernel
theorem rm:0<fL:=by decide +kernel
structure lm (m N:Nat) (A:Nat->Nat->Rat) (t:b7):Prop where
 ok:gv m m N A t
 lh:t.lC m N
 sE:t.D m A≠0
structure Small (m N:Nat) (A:Nat->Nat->Rat):Prop where
 hm:m<=20
 sF : ∀c,c<m-> ∀j,j<=N->eg 100 (A c j)
theorem lm.EJ {m N:Nat}{A:Nat->Nat->Rat}(s:Small m N A){t:b7}(h:lm m N A t):eg fL (t.D m A):=by refine eg.mono (AK fun i ab c a8=>s.sF c a8 _ (Nat.le_of_lt (h.ok.kb i ab))) (Dx▸Ar (by omega) s.hm)
theorem lm.vU {m N:Nat}{A:Nat->Nat->Rat}(s:Small m N A){t:b7}(h:lm m N A t){i j:Nat}(ab:i<m)(au:j<=N):eg fL (t.T i j*t.D m A):=by
 rw[<- h.ok.yn ab au];refine eg.mono (AK fun k aZ c a8=> ?_) (Dx▸Ar (by omega) s.hm);simp only[gD];split
 ·exact s.sF c a8 j au
 exact s.sF c a8 _ (Nat.le_of_lt (h.ok.kb k aZ))
theorem vv {k:Nat}(h:k<=21*100*(fL*fL)):((k:Nat):Int)<B 24:=by have:=acO;omega
theorem KD:fL<=21*100*(fL*fL):=by have h1:fL*1<=fL*fL:=Nat.mul_le_mul_left _ rm;omega
theorem lm.KE {m N:Nat}{A:Nat->Nat->Rat}(s:Small m N A){t:b7}(h:lm m N A t){i j:Nat}(ab:i<m)(au:j<=N):gu (t.T i j) :=
 vu (h.EJ s) (h.vU s ab au) h.sE (by grind) (vv KD)
theorem lm.SV {m N:Nat}{A:Nat->Nat->Rat}(s:Small m N A){t:b7}(h:lm m N A t){i j:Nat}(ab:i<m)(au:j<=N)(ae:0<t.T i j):gu (t.T i N / t.T i j) :=
 vu (h.vU s ab au) (h.vU s ab (dG _)) (fun c=>by have h1:=h.sE;have:t.T i j≠0:=(by grind);grind) (by grind) (vv KD)
theorem lm.TW {m N:Nat}{A:Nat->Nat->Rat}(s:Small m N A){t:b7}(h:lm m N A t){I:Nat->Rat}(ah:∀j,j<=N->eg 100 (I j)){j:Nat}(au:j<=N):eg (21*100*fL) (t.cR m I j*t.D m A):=by
 have hm:=s.hm;unfold b7.cR;have e:(I j-cq m (fun i=>I (t.B i)*t.T i j))*t.D m A=I j*t.D m A-cq m (fun i=>I (t.B i)*(t.T i j*t.D m A)):=by rw[fX (f:=fun i=>I (t.B i)*(t.T i j*t.D m A)) (g:=fun i=>(I (t.B i)*t.T i j)*t.D m A) (fun i _=>by grind),va];grind
 rw[e];refine eg.mono (((ah j au).mul (h.EJ s)).sub (eg.sum fun i ab=>(ah _ (Nat.le_of_lt (h.ok.kb i ab))).mul (h.vU s ab au))) ?_;have:m*(100*fL)<=20*(100*fL):=ahY _ hm;omega
theorem SW:21*100*fL<=21*100*(fL*fL):=by have h1:fL*1<=fL*fL:=Nat.mul_le_mul_left _ rm;omega
theorem lm.DY {m N:Nat}{A:Nat->Nat->Rat}(s:Small m N A){t:b7}(h:lm m N A t){I:Nat->Rat}(ah:∀j,j<=N->eg 100 (I j)){j:Nat}(au:j<=N):gu (t.cR m I j) :=
 vu ((h.EJ s).mono (Nat.le_trans (by omega:fL<=21*100*fL) (dG _))) (h.TW s ah au) h.sE (by grind) (vv SW)
theorem lm.gW {m N K:Nat}{A obj:Nat->Nat->Rat}{bU:Nat->Prop}{t:b7}(h:lm m N A t){r k:Nat}(b:o6 m N K obj bU t r k):lm m N A (t.ca r k) :=
 ⟨b.ok h.ok,b.DT h.lh,by rw[h.ok.xv b.ai b.bX];have h1:=b.pos;have o:=h.sE;intro c;have:t.T r k≠0:=(by grind);grind⟩
theorem lm.KF {m N:Nat}{A:Nat->Nat->Rat}(s:Small m N A){t:b7}(h:lm m N A t){I:Nat->Rat}(ah:∀j,j<=N->eg 100 (I j)){r k:Nat}(ai:r<m)(aZ:k<N)(ae:t.T r k≠0)(cF:gv m m N A (t.ca r k)):GF m N t (t.cR m I) r k:=by
 have bF:=h.sE;have rz:(t.ca r k).D m A≠0:=by rw[h.ok.xv ai aZ];grind
 have ez:(t.ca r k).D m A=t.T r k*t.D m A:=h.ok.xv ai aZ;have qo:eg fL ((t.ca r k).D m A):=eg.mono (AK fun i ab c a8=>s.sF c a8 _ (Nat.le_of_lt (cF.kb i ab))) (Dx▸Ar (by omega) s.hm)
 have yf : ∀i,i<m-> ∀j,j<=N->eg fL ((t.ca r k).T i j*(t.ca r k).D m A):=fun i ab j au=>by
  rw[<- cF.yn ab au];refine eg.mono (AK fun k aZ c a8=> ?_) (Dx▸Ar (by omega) s.hm);simp only[gD];split
  ·exact s.sF c a8 j au
  exact s.sF c a8 _ (Nat.le_of_lt (cF.kb k aZ))
 have yu:eg (21*100*(fL*fL)) (t.D m A*(t.ca r k).D m A):=((h.EJ s).mul qo).mono (by omega);have TX:t.D m A*(t.ca r k).D m A≠0:=by grind
 refine⟨fun i ab j au=>h.KE s ab au,fun i ab j au=>vu qo (yf i ab j au) rz (by grind) (vv KD),fun i ab _ j au=> ?_,fun j au=>h.DY s ah au,fun j au=> ?_,fun j au=> ?_⟩
 ·refine vu yu (((h.vU s ab (Nat.le_of_lt aZ)).mul (h.vU s ai au)).neg.mono (by omega)) TX ?_ (vv (dG _));rw[ez];grind
 ·rw[<- h.ok.Jx I ai aZ ae];have g2:eg (21*100*fL) ((t.ca r k).cR m I j*(t.ca r k).D m A):=(by have hm:=s.hm;unfold b7.cR;have e:(I j-cq m (fun i=>I ((t.ca r k).B i)*(t.ca r k).T i j))*(t.ca r k).D m A=I j*(t.ca r k).D m A-cq m (fun i=>I ((t.ca r k).B i)*((t.ca r k).T i j*(t.ca r k).D m A)):=(by rw[fX (f:=fun i=>I ((t.ca r k).B i)*((t.ca r k).T i j*(t.ca r k).D m A)) (g:=fun i=>(I ((t.ca r k).B i)*(t.ca r k).T i j)*(t.ca r k).D m A) (fun i _=>by grind),va];grind);rw[e];refine eg.mono (((ah j au).mul qo).sub (eg.sum fun i ab=>(ah _ (Nat.le_of_lt (cF.kb i ab))).mul (yf i ab j au))) ?_;have:m*(100*fL)<=20*(100*fL):=ahY _ hm;omega);exact vu (qo.mono (by omega)) g2 rz (by grind) (vv SW)
 refine vu yu (((h.TW s ah (Nat.le_of_lt aZ)).mul (h.vU s ai au)).neg.mono (by rw[Nat.mul_assoc];exact dG _)) TX ?_ (vv (dG _));rw[ez];grind
theorem abE {p:j6}{m n:Nat}{a:Nat->Nat->Int}{b:Nat->Int}(h:nb p m n a b):
 B2 p=some (((n+m:Nat):Int),nG m (n+m),dr m (iT m n a b),lU (n+m) ((iT m n a b).cR m (hh m n)),js m (n+m) (iT m n a b)):=by
 have hm:=h.hm;have aX:=h.aX;have fV:R (p.gz+p.ix)=((n+m:Nat):Int):=by rw[h.gK,h.rows,<- Int.natCast_add,ch (by omega) (by omega)]
 unfold B2;rw[fV]
 obtain⟨s1,e1,-⟩:=iE (f:=fun w:Int×aif=>y4 p.ix p.gz p.dq p.d4 p.jb ((n+m:Nat):Int) w.1 w.2)
  (fun (k:Nat) (_:Unit)=>((k:Int),a2 k fun j=>cZ (0:Rat))) (n+m+1) (fun _ _=>True) (fun _=>a2 (n+m+1) fun j=>cZ (0:Rat))
  (fun k aZ _ _=>by refine⟨(),?_,trivial⟩;unfold y4;refine eF (aI (x:=cZ (0:Rat)) (tY (n:=0) (by rw[nw];omega)) (cy (by simp only[dE,dX,dI,dM];omega) ?_));simp only;rw[fy (by omega),lN])
  (fun _ _=>by unfold y4;exact fl rfl) () trivial
 refine aI (x:=a2 (n+m+1) fun j=>cZ (0:Rat)) (by unfold NC;exact e1) ?_
 obtain⟨s2,aD,-⟩:=iE (f:=fun w:Int×aim×aio×ar×aif=>yX p.ix p.gz p.dq p.d4 p.jb ((n+m:Nat):Int) w.1 w.2.1 w.2.2.1 w.2.2.2.1 w.2.2.2.2)
  (fun (i:Nat) (_:Unit)=>((i:Int),a2 i (fun k=>some (k,n+m+1)),a2 i (hM (n+m) (iT m n a b)),a2 i (fun k=>((n+k:Nat):Int)),a2 (n+m+1) fun j=>cZ (hF m n a b i j))) m (fun _ _=>True)
  (fun _=>(nG m (n+m),js m (n+m) (iT m n a b),dr m (iT m n a b),a2 (n+m+1) fun j=>cZ (hF m n a b m j)))
  (fun i ab _ _=>by
    refine⟨(),?_,trivial⟩;have aL:=h.ys i ab;have hlen:((a2 (n+m) fun j=>cZ (c8 m n a b i j))++[cZ (c8 m n a b i (n+m))])=hM (n+m) (iT m n a b) i:=(lN ..).symm;have tr:(hM (n+m) (iT m n a b) i).length=n+m+1:=dX ..;have hw:R (p.gz+(i:Int))=((n+i:Nat):Int):=(by rw[h.gK,<- Int.natCast_add,ch (by omega) (by omega)]);have dj:(a2 i (hM (n+m) (iT m n a b))++[hM (n+m) (iT m n a b) i])[i]? = some (hM (n+m) (iT m n a b) i):=(by rw[<- lN];exact gN (by omega));have TY:(a2 i (hM (n+m) (iT m n a b))).length=i:=dX ..;have pT:kM m n a b i (n+m)=kj (b i)*b i:=by unfold kM;rw[dA (by omega),dw rfl]
    have fin:(some (Sum.inl (R ((i:Int)+1),(a2 i (fun k=>(some (k,n+m+1):b9)))++[some (i,n+m+1)],a2 i (hM (n+m) (iT m n a b))++[hM (n+m) (iT m n a b) i],(a2 i fun k=>((n+k:Nat):Int))++[((n+i:Nat):Int)],a2 (n+m+1) fun j=>cZ (hF m n a b (i+1) j))):Option ((Int×aim×aio×ar×aif)⊕(aim×aio×ar×aif))) =
     some (Sum.inl (((i+1:Nat):Int),a2 (i+1) (fun k=>some (k,n+m+1)),a2 (i+1) (hM (n+m) (iT m n a b)),a2 (i+1) (fun k=>((n+k:Nat):Int)),a2 (n+m+1) fun j=>cZ (hF m n a b (i+1) j))):=by
     rw[fy (by omega),lN i (fun k=>(some (k,n+m+1):b9)),lN i (hM (n+m) (iT m n a b)),lN i (fun k=>((n+k:Nat):Int))]
    unfold yX;refine k0 (by simp only;rw[h.rows];omega) (cy (by simp only;rw[h.yt];omega) (aI (x:=b i) (by simp only;rw[dy];exact h.GG i ab) (pj (fun c=> ?_) (fun c=> ?_))))
    ·have oc:b i<0:=of_decide_eq_true c;have bX:kj (b i) = -1:=(by unfold kj;rw[dw oc]);refine aI (Sc h ab) ?_;have ai:=Yr h ab oc ((n+m:Nat):Int) (a2 i (fun k=>some (k,n+m+1))) (a2 i (hM (n+m) (iT m n a b))) (a2 i (fun k=>((n+k:Nat):Int))) (a2 (n+m+1) fun j=>cZ (hF m n a b i j));rw[dC,Option.bind_eq_some_iff] at ai;obtain⟨c6,iF,x7⟩:=ai;refine aI iF (aI x7 (aI (x:=cZ (c8 m n a b i (n+m))) (by have e:R ((-1:Int)*b i)=kM m n a b i (n+m):=(by rw[pT,bX,ch (by omega) (by omega)]);rw[e];exact tY (by have:=ug h ab (n+m);rw[nw];omega)) ?_));simp only;rw[hlen,TY,tr,hw];refine dn (aI dj (aI (Qa h ab _ _ _ dj) (cy (by simp only[dE,dX,dI,dM];omega) (cy (by simp only[dE,dX,dI,dM];omega) fin))))
    have oc : ¬b i<0:=of_decide_eq_false c;have bX:kj (b i)=1:=(by unfold kj;rw[dA oc]);refine aI (Sc h ab) ?_;have ai:=Ys h ab oc ((n+m:Nat):Int) (a2 i (fun k=>some (k,n+m+1))) (a2 i (hM (n+m) (iT m n a b))) (a2 i (fun k=>((n+k:Nat):Int))) (a2 (n+m+1) fun j=>cZ (hF m n a b i j));rw[dC,Option.bind_eq_some_iff] at ai;obtain⟨c6,iF,x7⟩:=ai;refine aI iF (aI x7 (aI (x:=cZ (c8 m n a b i (n+m))) (by have e:R ((1:Int)*b i)=kM m n a b i (n+m):=(by rw[pT,bX,ch (by omega) (by omega)]);rw[e];exact tY (by have:=ug h ab (n+m);rw[nw];omega)) ?_));simp only;rw[hlen,TY,tr,hw];refine dn (aI dj (aI (Qa h ab _ _ _ dj) (cy (by simp only[dE,dX,dI,dM];omega) (cy (by simp only[dE,dX,dI,dM];omega) fin)))))
  (fun _ _=>by unfold yX;exact k1 (by simp only;rw[h.rows];omega) rfl) () trivial
 have e0:(a2 (n+m+1) fun j=>cZ (hF m n a b 0 j))=a2 (n+m+1) fun j=>cZ (0:Rat):=eY fun j _=>by unfold hF;split<;>rfl
 rw[e0] at aD;refine aI (x:=(nG m (n+m),js m (n+m) (iT m n a b),dr m (iT m n a b),a2 (n+m+1) fun j=>cZ (hF m n a b m j))) (by unfold Np;exact aD) ?_;congr 1;refine Prod.ext rfl (Prod.ext rfl (Prod.ext rfl (Prod.ext ?_ rfl)));refine eY fun j au=> ?_;rw[aaf];unfold hF hh;by_cases c:j<n\/j=n+m
 ·rw[dw c,dA (by omega)];congr 1;grind
 rw[dA c,dw (by omega)];obtain⟨k,rfl⟩ : ∃k,j=n+k:=⟨j-n,by omega⟩;rw[k4 (k:=k) (by omega) (fun i _ cU=>by rw[tW (by omega),dA (Ne.symm cU)]),tW (by omega),dw rfl,show (-1:Rat)+1=0 by grind]
theorem JB (l:ar)(aO:l.length<=1000)(h:∀x∈l,-100<=x/\x<=100):w2 l=some true:=by
 unfold w2 Pd;rw[gj]
 obtain⟨s,e,-⟩:=iE (f:=fun w:Int=>zK l (l.length:Nat) w) (fun (i:Nat) (_:Unit)=>(i:Int)) l.length (fun _ _=>True) (fun _=>(Sum.inl ():Unit⊕Unit))
  (fun i ab _ _=>by refine⟨(),?_,trivial⟩;have U:=h l[i] (List.getElem_mem ab);unfold zK;refine eF (dn (aI (x:=l[i]) (by rw[dy];exact dx ab) (aI (rX _ _ _) (fK (decide_eq_true (by omega)) ?_))));rw[fy (by omega)])
  (fun _ _=>by unfold zK;exact fl rfl) () trivial
 exact aI e rfl
theorem YN {p:j6}{m n:Nat}{a:Nat->Nat->Int}{b:Nat->Int}(h:nb p m n a b)(Hy:p.jb.length=n)(yv:∀x∈p.jb,-100<=x/\x<=100):B8 p=some true:=by
 have hm:=h.hm;have aX:=h.aX;have Hf:m*n<=20*40:=Nat.mul_le_mul hm aX
 have hA : ∀x∈p.dq,-100<=x/\x<=100:=fun x U=>by
  obtain⟨k,aZ,rfl⟩:=List.getElem_of_mem U;rw[h.gM] at aZ
  have D5:0<n:=by
   rcases Nat.eq_zero_or_pos n with c|c
   ·rw[c] at aZ;omega
   exact c
  have h1:k / n<m:=Nat.div_lt_of_lt_mul (by rw[Nat.mul_comm];exact aZ);have o:k % n<n:=Nat.mod_lt _ D5;have aa:=h.DX (k / n) h1 (k % n) o;have ao:k / n*n+k % n=k:=(by rw[Nat.mul_comm];exact Nat.div_add_mod k n);rw[ao,dx (by rw[h.gM];exact aZ)] at aa;rw[dJ aa];exact h.uS _ h1 _ o
 have gP : ∀x∈p.d4,-100<=x/\x<=100:=fun x U=>by obtain⟨k,aZ,rfl⟩:=List.getElem_of_mem U;have aa:=h.GG k (by rw[<- h.yt];exact aZ);rw[dx aZ] at aa;rw[dJ aa];exact h.ys _ (by rw[<- h.yt];exact aZ)
 unfold B8;rw[h.rows,h.gK];refine aI (rX _ _ _) (fK (decide_eq_true (by omega)) (aI (rX _ _ _) (fK (decide_eq_true (by omega)) ?_)));refine fK (tg (by rw[gj,h.gM,<- Int.natCast_mul,ch (by omega) (by omega)])) (fK (tg (by rw[gj,h.yt])) (fK (tg (by rw[gj,Hy])) ?_));exact aI (JB _ (by rw[h.gM];omega) hA) (fK rfl (aI (JB _ (by rw[h.yt];omega) gP) (fK rfl (aI (JB _ (by rw[Hy];omega) yv) rfl))))
theorem JM (m n j:Nat):eg 100 (hh m n j):=by
 unfold hh;split
 ·exact⟨-1,rfl,by omega⟩
 exact⟨0,rfl,by omega⟩
theorem GH {g:Nat->Rat}:ib 1 g↔0<g 0:=by
 constructor
 ·rintro⟨l,h1,o,-⟩;rw[show l=0 by omega] at o;exact o
 intro h;exact⟨0,by omega,h,fun fC aO=>by omega⟩
theorem Jk {p:j6}{m n:Nat}{a:Nat->Nat->Int}{b:Nat->Int}(h:nb p m n a b):Small m (n+m) (c8 m n a b):=⟨h.hm,fun c a8 j _=>Kh h a8 j⟩
theorem aaJ {p:j6}{m n:Nat}{a:Nat->Nat->Int}{b:Nat->Int}(h:nb p m n a b):
 ∃t,z1 false ((n+m:Nat):Int) (nG m (n+m)) (dr m (iT m n a b)) (lU (n+m) ((iT m n a b).cR m (hh m n))) (js m (n+m) (iT m n a b))=some (true,dr m t,lU (n+m) (t.cR m (hh m n)),js m (n+m) t) /\
  lm m (n+m) (c8 m n a b) t/\(t.cR m (hh m n) (n+m)=0↔vA m n a b):=by
 have hm:=h.hm;have aX:=h.aX;have nu:=Jk h
 obtain⟨q,t,e,cA,en⟩:=acN (eo:=m) (m:=m) (N:=n+m) (K:=1) (by omega) (by omega) (A:=c8 m n a b) (obj:=fun _=>hh m n) false (lm m (n+m) (c8 m n a b)) (fun t cb=>⟨cb.ok,cb.lh⟩) (fun t r s cb b=>cb.gW b)
  (fun t cb j au=>⟨kd (t.cR m (hh m n) j),acd (by omega) _ _ _ _ (by omega) (cb.DY nu (fun j _=>JM m n j) (by omega)),fun _=>by rw[r3];exact(GH (g:=fun _=>t.cR m (hh m n) j)).symm⟩)
  (fun t cb i ab j au=>cb.KE nu ab au) (fun t cb i ab j au ae=>cb.SV nu ab au ae)
  (fun t cb r k ai aZ ae=>cb.KF nu (fun j _=>JM m n j) ai aZ ae (cb.ok.ca ai aZ ae)) (iT m n a b) ⟨Ry,Qv,QY⟩
 rcases en with ⟨rfl,en⟩|⟨-,s,bX,dj,h4⟩
 ·refine⟨t,e,cA,fun h0=>PF cA.ok cA.lh (PG cA.lh h0 cA.ok.kb),fun ae7=>P4 cA.ok cA.lh (fun j au=> ?_) ae7⟩;have:=en j (by omega);have o : ¬0<t.cR m (hh m n) j:=fun c=>this (GH.2 c);grind
 obtain⟨i,ab,ae⟩:=Pm cA.ok bX (GH.1 dj);exact(h4 i ab ae).elim
theorem Ya {p:j6}{m n:Nat}{a:Nat->Nat->Int}{b:Nat->Int}(h:nb p m n a b)(Hy:p.jb.length=n)(yv:∀x∈p.jb,-100<=x/\x<=100): ∃r,wG p=some r/\(r=true↔vA m n a b):=by have hm:=h.hm;have aX:=h.aX;obtain⟨t,e,cA,bX⟩:=aaJ h;unfold wG;refine⟨_,aI (YN h Hy yv) (fK rfl (aI (abE h) (aI e (cy (by simp only;unfold lU;rw[dX];omega) (aI (x:=cZ (t.cR m (hh m n) (n+m))) (by simp only;rw[dy];exact iQ (by omega)) (aI (ri (cA.DY (Jk h) (fun j _=>JM m n j) (dG _))) rfl)))))),?_⟩;rw[<- bX,beq_iff_eq,sV]
def b2 (x:Rat):bI:=hD x.num
@[irreducible] def k2:Nat:=1000000000 ^ 40
theorem SX:((k2:Nat):Int)+((k2:Nat):Int)<B 50:=by decide +kernel
theorem acP {K:Nat}{x:Rat}(h:eg K x):((x.num:Int):Rat)=x/\x.num.natAbs<=K:=by obtain⟨z,rfl,cj⟩:=h;rw[Rat.num_intCast];exact⟨rfl,cj⟩
theorem px (z:Int):b2 (z:Rat)=hD z:=by unfold b2;rw[Rat.num_intCast]
theorem AM {x:Rat}(h:eg k2 x):(L x.num.natAbs).length<=50:=by have:=SX;have h1:=(acP h).2;exact(jD (by omega)).2 (by omega)
theorem At {x y:Rat}(U:eg k2 x)(aR:eg k2 y):qs (b2 x) (b2 y)=some (b2 (x*y)):=by have h1:=AM U;have o:=AM aR;obtain⟨a,rfl,-⟩:=U;obtain⟨b,rfl,-⟩:=aR;rw[Rat.num_intCast] at h1 o;rw[px,px,<- aid,px];exact aax (by omega) (by omega)
theorem Ra {x y:Rat}(U:eg k2 x)(aR:eg k2 y):wC (b2 x) (b2 y)=some (b2 (x-y)):=by have gP:=SX;obtain⟨a,rfl,bC⟩:=U;obtain⟨b,rfl,aL⟩:=aR;rw[px,px,<- Rat.intCast_sub,px];exact aaE (by omega) (by omega)
theorem vi {x:Rat}(U:eg k2 x):pX (b2 x)=some (kd x):=by
 obtain⟨a,rfl,bC⟩:=U;rw[px];unfold pX kd;simp only[gj];have e:(((L a.natAbs).length:Nat):Int)=0↔a=0:=by rw[KC (by omega)];omega
 show (if (((L a.natAbs).length:Int) == 0)=true then some 0 else if decide (a<0)=true then some (-1) else some 1)=_;by_cases h0:a=0
 ·rw[dw (by rw[beq_iff_eq,e];exact h0),dw (by rw[h0];rfl)]
 have ae8:(a:Rat)≠0:=fun c=>h0 (Rat.intCast_inj.1 (by rw[c];rfl));rw[dA (by rw[beq_iff_eq,e];exact h0),dA ae8];have aD:(a:Rat)<0↔a<0:=by rw[show (0:Rat)=((0:Int):Rat) from rfl,Rat.intCast_lt_intCast]
 by_cases h1:a<0
 ·rw[dw (decide_eq_true h1),dw (aD.2 h1)]
 rw[dA (by simpa using h1),dA (fun c=>h1 (aD.1 c))]
theorem ZS {x y:Rat}(U:eg k2 x)(aR:eg k2 y):tC (b2 x) (b2 y)=some (if x<y then -1 else if y<x then 1 else 0):=by have h1:=AM U;have o:=AM aR;obtain⟨a,rfl,-⟩:=U;obtain⟨b,rfl,-⟩:=aR;rw[Rat.num_intCast] at h1 o;rw[px,px,W1 (by omega) (by omega)];unfold lB;simp only[Rat.intCast_lt_intCast]
theorem PI {x:Rat}(U:eg k2 x):tA (b2 x)=some (b2 (-x)):=by obtain⟨a,rfl,-⟩:=U;rw[px,<- Rat.intCast_neg,px];unfold tA;show (n0 (!(decide (a<0))) (L a.natAbs)).bind _=_;rw[tP (by omega),J5];rfl
theorem tN {n:Int}(h:pF n):pk n=some (b2 (n:Rat)):=by rw[px];exact ZJ h
theorem ZT {x y:Rat}(U:eg k2 x)(aR:eg k2 y)(K7:eg k2 (x*y))(h0:y≠0):uW (b2 (x*y)) (b2 y)=some (b2 x):=by
 have h1:=AM K7;have o:=AM aR;obtain⟨a,rfl,-⟩:=U;obtain⟨b,rfl,-⟩:=aR;rw[<- aid] at h1 ⊢;rw[Rat.num_intCast] at h1 o;have aL:b≠0:=fun c=>h0 (by rw[c];rfl);rw[px,px,px];unfold uW;show (Aj (L (a*b).natAbs) (L b.natAbs)).bind _=_;rw[ab4 (jN _) (jN _) (fun c=>by have:=vq.1 c;omega) (by omega) (by omega),ey (by omega),ey (by omega)];have e1:((a*b).natAbs:Int) / (b.natAbs:Int)=(a.natAbs:Int):=by rw[Int.natAbs_mul,Int.natCast_mul];exact Int.mul_ediv_cancel _ (by omega)
 simp only[dB];rw[e1];show (n0 (!(decide (a*b<0) == decide (b<0))) (L a.natAbs)).bind _=_;rw[tP (by omega)];simp only[dB];congr 2;rcases Int.lt_or_gt_of_ne aL with c|c
 ·by_cases bC:a<0
  ·have : ¬a*b<0:=(by have:=Int.mul_pos_of_neg_of_neg bC c;omega);rw[decide_eq_false this,decide_eq_true c];simp only[ev,show (!(false == true))=true from rfl,if_true];omega
  by_cases cj:a=0
  ·subst cj;simp[ev]
  have:a*b<0:=Int.mul_neg_of_pos_of_neg (by omega) c;rw[decide_eq_true this,decide_eq_true c];simp only[ev,BEq.rfl,Bool.not_true,ah2,if_false];omega
 by_cases bC:a<0
 ·have:a*b<0:=Int.mul_neg_of_neg_of_pos bC c;rw[decide_eq_true this,decide_eq_false (by omega)];simp only[ev,show (!(true == false))=true from rfl,if_true];omega
 have : ¬a*b<0:=by have:=Int.mul_nonneg (show 0<=a by omega) (show 0<=b by omega);omega
 rw[decide_eq_false this,decide_eq_false (by omega)];simp only[ev,BEq.rfl,Bool.not_true,ah2,if_false];omega
def ht (N:Nat)(w:Rat)(t:b7)(i:Nat):aih:=a2 (N+1) fun j=>b2 (t.T i j*w)
structure qh (m N:Nat) (w:Rat) (t:b7):Prop where
 pos:0<w
 hw:eg (21*100*fL) w
 hN : ∀i,i<m-> ∀j,j<=N->eg fL (t.T i j*w)
 gP : ∀i,i<m->t.B i<N
theorem Dy:21*100*fL*(21*100*fL)+21*100*fL*(21*100*fL)<=k2:=by decide +kernel
theorem adX {q i:Nat}(a1:0<q)(ab:i<=20):21*100*q*100+i*(q*100)<=21*100*q*(21*100*q):=by have h1:i*(q*100)<=20*(q*100):=ahY _ ab;have o:21*100*q*2100<=21*100*q*(21*100*q):=Nat.mul_le_mul_left _ (by omega);generalize 21*100*q*(21*100*q)=z at *;omega
theorem adY {i:Nat}(ab:i<=20):21*100*fL*100+i*(fL*100)<=k2 :=
 Nat.le_trans (adX rm ab) (Nat.le_trans (Nat.le_add_right _ _) Dy)
theorem um {K:Nat}(h:K<=21*100*fL):K<=k2:=by have ae9:=Dy;have h1:21*100*fL*1<=21*100*fL*(21*100*fL):=Nat.mul_le_mul_left _ (by have:=rm;generalize fL=q at *;omega);rw[Nat.mul_one] at h1;exact Nat.le_trans h (Nat.le_trans h1 (Nat.le_trans (Nat.le_add_right _ _) ae9))
theorem RG {m N:Nat}(hm:m<=20)(fV:N<1000){w:Rat}{t:b7}(h:qh m N w t)(I:Nat->Int)(ah:∀j,j<N-> -100<=I j/\I j<=100)(jw:bI)(A2:jw=b2 w)(gK:Int)(free:ain){k:Nat}(aZ:k<N):
 zS ⟨a2 m (ht N w t),jw,dr m t,gK,free⟩ (a2 N I) (k:Int)=some (kd (t.cR m (fun j=>(I j:Rat)) k)):=by
 subst A2;have ahH:=rm;have small : ∀ {x:Rat} {K:Nat},eg K x->K<=21*100*fL->eg k2 x:=fun h1 o=>h1.mono (um o);have af : ∀j,j<N->eg 100 ((I j:Int):Rat):=fun j au=>⟨I j,rfl,by have:=ah j au;omega⟩;have TZ : ∀j,j<N->pF (I j):=fun j au=>by have:=ah j au;rw[nw];omega
 let S:Nat->Rat:=fun i=>w*(I k:Rat)-cq i (fun i=>(t.T i k*w)*(I (t.B i):Rat))
 have Uo : ∀i,i<=m->eg k2 (S i):=fun i ab=>by have e1:eg (21*100*fL*100) (w*(I k:Rat)):=h.hw.mul (af k aZ);have aD:eg (i*(fL*100)) (cq i (fun i=>(t.T i k*w)*(I (t.B i):Rat))):=eg.sum fun eG jk=>(h.hN eG (by omega) k (by omega)).mul (af _ (h.gP eG (by omega)));exact(e1.sub aD).mono (adY (by omega))
 unfold zS;refine dn (aI (x:=I k) (by rw[dy];exact gN aZ) (aI (tN (TZ k aZ)) (aI (At (small h.hw (dG _)) (small (af k aZ) (by omega))) ?_)))
 obtain⟨s,e,-⟩:=iE (f:=fun q:Int×Bool×ar=>yU (a2 m (ht N w t)) (b2 w).cS (b2 w).cG (dr m t) gK free (a2 N I) (k:Int) ((m:Nat):Int) q.1 q.2.1 q.2.2)
  (fun (i:Nat) (_:Unit)=>((i:Int),(b2 (S i)).cS,(b2 (S i)).cG)) m (fun _ _=>True) (fun _=>((b2 (S m)).cS,(b2 (S m)).cG))
  (fun i ab _ _=>by
    refine⟨(),?_,trivial⟩;have Hp:=h.gP i ab;have LD:S (i+1)=S i-(t.T i k*w)*(I (t.B i):Rat):=(by simp only[S,cq];grind);unfold yU;refine eF (cy (by unfold dr;rw[dX];simp only;omega) (aI (x:=((t.B i:Nat):Int)) (by simp only;rw[dy];exact gN ab) (dn (aI (x:=I (t.B i)) (by rw[dy];exact gN Hp) (pj (fun c=> ?_) (fun c=> ?_))))))
    ·refine dn (aI (x:=ht N w t i) (by simp only;rw[dy];exact gN ab) (cy (by unfold ht;rw[dX];omega) (aI (x:=b2 (t.T i k*w)) (by rw[dy];exact gN (by omega)) (aI (vi (small (h.hN i ab k (by omega)) (by omega))) (pj (fun b8=> ?_) (fun b8=> ?_))))))
     ·refine aI (tN (TZ _ Hp)) (aI (At (small (h.hN i ab k (by omega)) (by omega)) (small (af _ Hp) (by omega))) (aI (Ra (Uo i (by omega)) (by
       exact small ((h.hN i ab k (by omega)).mul (af _ Hp)) (by omega))) ?_))
      simp only;rw[fy (by omega),LD]
     have cj:t.T i k*w=0:=sV.1 (by simpa using b8);simp only;rw[fy (by omega),LD,cj,show S i-0*(I (t.B i):Rat)=S i by grind]
    have cj:I (t.B i)=0:=(by simpa using c);simp only;rw[fy (by omega),LD,cj,show S i-t.T i k*w*((0:Int):Rat)=S i by rw[show ((0:Int):Rat)=0 from rfl];grind])
  (fun _ _=>by unfold yU;exact fl rfl) () trivial
 have e0:S 0=w*(I k:Rat):=by simp only[S,cq];grind
 rw[e0] at e;refine aI (x:=((b2 (S m)).cS,(b2 (S m)).cG)) (by unfold Nj;rw[gj,show (dr m t).length=m from dX ..];exact e) (aI (x:=kd (S m)) (vi (Uo m (dG _))) ?_);congr 1;have aD:S m=w*t.cR m (fun j=>(I j:Rat)) k:=by simp only[S];unfold b7.cR;rw[fX (f:=fun i=>t.T i k*w*(I (t.B i):Rat)) (g:=fun i=>w*((I (t.B i):Rat)*t.T i k)) (fun i _=>by grind),jy];grind
 rw[aD];have ae:=h.pos;unfold kd;by_cases c:t.cR m (fun j=>(I j:Rat)) k=0
 ·rw[dw c,dw (by rw[c];grind)]
 rw[dA c,dA (by grind)];by_cases b8:t.cR m (fun j=>(I j:Rat)) k<0
 ·rw[dw b8,dw];have:=Rat.mul_pos ae (show 0 < -(t.cR m (fun j=>(I j:Rat)) k) by grind);grind
 rw[dA b8,dA];have:=Rat.mul_pos ae (show 0<t.cR m (fun j=>(I j:Rat)) k by grind);grind
theorem Rb {x y z v w:Rat}(hw:0<w)(aR:0<y)(bb:0<v):(x*w)*(v*w)<(z*w)*(y*w)↔x / y<z / v:=by
 have e1:(x*w)*(v*w)=(x / y)*((y*v)*(w*w)):=by grind
 have aD:(z*w)*(y*w)=(z / v)*((y*v)*(w*w)):=by grind
 have ae:0<(y*v)*(w*w):=Rat.mul_pos (Rat.mul_pos aR bb) (Rat.mul_pos hw hw);rw[e1,aD];constructor
 ·intro h;apply Classical.byContradiction;intro c;have:z / v<=x / y:=(by grind);have:=Rat.mul_le_mul_of_nonneg_right this (Rat.le_of_lt ae);grind
 intro h;exact Rat.mul_lt_mul_of_pos_right h ae
theorem AD {x w:Rat}(hw:0<w):kd (x*w)=kd x:=by
 unfold kd;by_cases c:x=0
 ·rw[dw c,dw (by rw[c];grind)]
 rw[dA c,dA (by grind)];by_cases b8:x<0
 ·rw[dw b8,dw];have:=Rat.mul_pos (show 0 < -x by grind) hw;grind
 rw[dA b8,dA];have:=Rat.mul_pos (show 0<x by grind) hw;grind
theorem ZU {m N:Nat}(hm:m<=20)(fV:N<1000){w:Rat}{t:b7}(h:qh m N w t)(jw:bI)(free:ain){k:Nat}(aZ:k<=N):
 ∃r,BN ⟨a2 m (ht N w t),jw,dr m t,(N:Int),free⟩ (k:Int)=some r/\F5 m N t k r:=by
 have hw:=h.pos;have oW : ∀i,i<m-> ∀j,j<=N->eg k2 (t.T i j*w):=fun i ab j au=>(h.hN i ab j au).mono (um (by have:=rm;generalize fL=q at *;omega));have EZ : ∀i,i<m-> ∀j,j<=N-> ∀eG,eG<m-> ∀iC,iC<=N->eg k2 (t.T i j*w*(t.T eG iC*w)):=fun i ab j au eG jk iC vJ=>((h.hN i ab j au).mul (h.hN eG jk iC vJ)).mono (by refine Nat.le_trans ?_ (Nat.le_trans (Nat.le_add_right _ _) Dy);exact Nat.mul_le_mul (by generalize fL=q;omega) (by generalize fL=q;omega));unfold BN
 obtain⟨r,e,ai⟩:=qy (f:=fun q:Int×Int=>yL (a2 m (ht N w t)) jw.cS jw.cG (dr m t) (N:Int) free (k:Int) ((m:Nat):Int) q.1 q.2)
  (fun (i:Nat) (s:Int)=>(s,(i:Int))) m
  (fun n s=>(s = -1/\ ∀i,i<n-> ¬0<t.T i k)\/ ∃b:Nat,s=b/\b<n/\0<t.T b k/\ ∀i,i<n->0<t.T i k->t.T b N / t.T b k<t.T i N / t.T i k\/(t.T b N / t.T b k=t.T i N / t.T i k/\t.B b<=t.B i))
  (fun r=>F5 m N t k r)
  (fun n aX s cA=>by
    left;unfold yL;have g1:0<=((n:Nat):Int)/\((n:Nat):Int)<((a2 m (ht N w t)).length:Nat):=(by rw[dX];omega);have g2:(a2 m (ht N w t))[((n:Nat):Int).toNat]? = some (ht N w t n):=(by rw[dy];exact gN aX);have g3 : ∀b,0<=((k:Nat):Int)/\((k:Nat):Int)<((ht N w t b).length:Nat):=fun b=>(by unfold ht;rw[dX];omega);have g4 : ∀b,(ht N w t b)[((k:Nat):Int).toNat]? = some (b2 (t.T b k*w)):=fun b=>(by rw[dy];exact gN (by omega));have g5 : ∀b,0<=((N:Nat):Int)/\((N:Nat):Int)<((ht N w t b).length:Nat):=fun b=>(by unfold ht;rw[dX];omega);have g6 : ∀b,(ht N w t b)[((N:Nat):Int).toNat]? = some (b2 (t.T b N*w)):=fun b=>(by rw[dy];exact gN (by omega));have j5:R ((n:Int)+1)=((n+1:Nat):Int):=fy (by omega);have qR:pX (b2 (t.T n k*w))=some (kd (t.T n k)):=(by rw[vi (oW n aX k aZ),AD hw]);by_cases ae:0<t.T n k
    ·have bX : ¬kd (t.T n k)<=0:=by have:=r3.2 ae;omega
     rcases cA with ⟨h1,o⟩|⟨b,h1,aL,j2,aa⟩
     ·refine⟨(n:Int),eF (cy g1 (aI g2 (cy (g3 n) (aI (g4 n) (aI qR (k1 bX (eF ?_))))))),.inr ⟨n,rfl,by omega,ae,fun i ab i2=> ?_⟩⟩
      ·simp only;rw[j5]
      by_cases c:i=n
      ·subst c;exact .inr ⟨rfl,dG _⟩
      exact(o i (by omega) i2).elim
     subst h1;have Hm:0<=((b:Nat):Int)/\((b:Nat):Int)<((a2 m (ht N w t)).length:Nat):=(by rw[dX];omega);have Hn:(a2 m (ht N w t))[((b:Nat):Int).toNat]? = some (ht N w t b):=by rw[dy];exact gN (by omega)
     have gc:tC (b2 (t.T n N*w*(t.T b k*w))) (b2 (t.T b N*w*(t.T n k*w)))=some (if t.T n N / t.T n k<t.T b N / t.T b k then -1 else if t.T b N / t.T b k<t.T n N / t.T n k then 1 else 0):=by
      rw[ZS (EZ n aX N (by omega) b (by omega) k aZ) (EZ b (by omega) N (by omega) n aX k aZ)];have r1:=Rb (x:=t.T n N) (y:=t.T n k) (z:=t.T b N) (v:=t.T b k) hw ae j2;have bM:=Rb (x:=t.T b N) (y:=t.T b k) (z:=t.T n N) (v:=t.T n k) hw j2 ae;by_cases bl:t.T n N / t.T n k<t.T b N / t.T b k
      ·rw[dw bl,dw (r1.2 bl)]
      rw[dA bl,dA (fun c=>bl (r1.1 c))];by_cases b8:t.T b N / t.T b k<t.T n N / t.T n k
      ·rw[dw b8,dw (bM.2 b8)]
      rw[dA b8,dA (fun c=>b8 (bM.1 c))]
     have lead : ∀ {x r:Option ((Int×Int)⊕Int)} {f:Int->Option ((Int×Int)⊕Int)} {q:Int},tC (b2 (t.T n N*w*(t.T b k*w))) (b2 (t.T b N*w*(t.T n k*w)))=some q->f q=r ->
      (if 0<=((N:Nat):Int)/\((N:Nat):Int)<((ht N w t n).length:Nat) then
        (ht N w t n)[((N:Nat):Int).toNat]? >>= fun sv =>
        if 0<=((b:Nat):Int)/\((b:Nat):Int)<((a2 m (ht N w t)).length:Nat) then
        (a2 m (ht N w t))[((b:Nat):Int).toNat]? >>= fun nn =>
        if 0<=((k:Nat):Int)/\((k:Nat):Int)<(nn.length:Nat) then
        nn[((k:Nat):Int).toNat]? >>= fun sw =>
        qs sv sw >>= fun oP =>
        if 0<=((N:Nat):Int)/\((N:Nat):Int)<(nn.length:Nat) then
        nn[((N:Nat):Int).toNat]? >>= fun uA =>
        qs uA (b2 (t.T n k*w)) >>= fun oQ =>
        tC oP oQ >>= f
        else none else none else none else none)=r:=fun a1 b5 =>
      cy (g5 n) (aI (g6 n) (cy Hm (aI Hn (cy (g3 b) (aI (g4 b) (aI (At (oW n aX N (by omega)) (oW b (by omega) k aZ)) (cy (g5 b) (aI (g6 b) (aI (At (oW b (by omega) N (by omega)) (oW n aX k aZ)) (aI a1 b5))))))))))
     by_cases bl:t.T n N / t.T n k<t.T b N / t.T b k
     ·rw[dw bl] at gc
      refine⟨(n:Int),eF (cy g1 (aI g2 (cy (g3 n) (aI (g4 n) (aI qR (k1 bX (fl (lead (x:=none) gc (eF ?_))))))))),.inr ⟨n,rfl,by omega,ae,fun i ab i2=> ?_⟩⟩
      ·simp only;rw[j5]
      by_cases c:i=n
      ·subst c;exact .inr ⟨rfl,dG _⟩
      rcases aa i (by omega) i2 with h|⟨h,-⟩
      ·left;grind
      left;rw[<- h];exact bl
     rw[dA bl] at gc;by_cases b8:t.T b N / t.T b k<t.T n N / t.T n k
     ·rw[dw b8] at gc
      refine⟨(b:Int),eF (cy g1 (aI g2 (cy (g3 n) (aI (g4 n) (aI qR (k1 bX (fl (lead (x:=none) gc (fl (hI (by decide) ?_)))))))))),.inr ⟨b,rfl,by omega,j2,fun i ab i2=> ?_⟩⟩
      ·simp only;rw[j5]
      by_cases c:i=n
      ·subst c;exact .inl b8
      exact aa i (by omega) i2
     rw[dA b8] at gc;have LB:t.T b N / t.T b k=t.T n N / t.T n k:=(by grind);have T0:0<=((n:Nat):Int)/\((n:Nat):Int)<((dr m t).length:Nat):=(by unfold dr;rw[dX];omega);have T1:(dr m t)[((n:Nat):Int).toNat]? = some ((t.B n:Nat):Int):=(by rw[dy];exact gN aX);have T2:0<=((b:Nat):Int)/\((b:Nat):Int)<((dr m t).length:Nat):=(by unfold dr;rw[dX];omega);have T3:(dr m t)[((b:Nat):Int).toNat]? = some ((t.B b:Nat):Int):=(by rw[dy];exact gN (by omega));by_cases jI:t.B n<t.B b
     ·refine⟨(n:Int),eF (cy g1 (aI g2 (cy (g3 n) (aI (g4 n) (aI qR (k1 bX (fl (lead (x:=none) gc (fl (fK rfl (cy T0 (aI T1 (cy T2 (aI T3 (eF ?_))))))))))))))),.inr ⟨n,rfl,by omega,ae,fun i ab i2=> ?_⟩⟩
      ·simp only;rw[j5]
      by_cases c:i=n
      ·subst c;exact .inr ⟨rfl,dG _⟩
      rcases aa i (by omega) i2 with h|⟨h,cF⟩
      ·left;grind
      right;exact⟨by grind,by omega⟩
     refine⟨(b:Int),eF (cy g1 (aI g2 (cy (g3 n) (aI (g4 n) (aI qR (k1 bX (fl (lead (x:=none) gc (fl (fK rfl (cy T0 (aI T1 (cy T2 (aI T3 (fl ?_))))))))))))))),.inr ⟨b,rfl,by omega,j2,fun i ab i2=> ?_⟩⟩
     ·simp only;rw[j5]
     by_cases c:i=n
     ·subst c;exact .inr ⟨LB,by omega⟩
     exact aa i (by omega) i2
    have bX:kd (t.T n k)<=0:=(by have : ¬0<kd (t.T n k):=fun c=>ae (r3.1 c);omega);refine⟨s,eF (cy g1 (aI g2 (cy (g3 n) (aI (g4 n) (aI qR (k0 bX ?_)))))),?_⟩
    ·simp only;rw[j5]
    rcases cA with ⟨h1,o⟩|⟨b,h1,aL,j2,aa⟩
    ·exact .inl ⟨h1,fun i ab=>if c:i=n then c▸ae else o i (by omega)⟩
    exact .inr ⟨b,h1,by omega,j2,fun i ab i2=>if c:i=n then (ae (c▸i2)).elim else aa i (by omega) i2⟩)
  (fun s cA=>by
    refine⟨s,by unfold yL;exact fl rfl,?_⟩;rcases cA with ⟨h1,o⟩|⟨b,h1,aL,j2,aa⟩
    ·exact .inl ⟨h1,o⟩
    refine .inr ⟨b,h1,aL,j2,fun i ab i2=> ?_,fun i ab i2 he=> ?_⟩
    ·rw[<- (FV j2 i2).1]
     rcases aa i ab i2 with h|⟨h,-⟩
     ·exact Rat.le_of_lt h
     rw[h];exact Rat.le_refl
    rw[<- (FV j2 i2).2] at he;rcases aa i ab i2 with h|⟨-,h⟩
    ·rw[he] at h;grind
    exact h) (-1:Int) (.inl ⟨rfl,fun i ab=>by omega⟩)
 refine⟨r,aI ?_ rfl,ai⟩;unfold MJ;rw[ff,dX];exact e
def hT (m N:Nat)(h:Nat->Nat):aim:=a2 m fun i=>some (h i,N+1)
structure nH (m N M:Nat) (h:Nat->Nat) (w:Rat) (t:b7) (ft:aii):Prop where
 len:ft.length=M
 row : ∀i,i<m->ft[h i]? = some (ht N w t i)
theorem Fw {α:Type}{l:List α}{i:Nat}{x y:α}(h:l[i]? = some x):(l.set i y)[i]? = some y:=by rw[ah1,dw rfl,dw (ahV.1 h).1]
theorem I8 {α:Type}{l:List α}{i k:Nat}{y:α}(h:i≠k):(l.set i y)[k]? = l[k]? := by rw[ah1,dA h]
theorem set_set {α:Type}(l:List α)(i:Nat)(x y:α):(l.set i x).set i y=l.set i y:=by rw[List.set_set]
structure uo (m N:Nat) (w:Rat) (t:b7) (r k:Nat):Prop where
 ai:r<m
 aZ:k<N
 ae:t.T r k≠0
 Bt : ∀i,i<m-> ∀j,j<=N->eg fL ((t.ca r k).T i j*(t.T r k*w))
theorem abF {m N:Nat}(fV:N<1000){h:Nat->Nat}{w:Rat}{t:b7}{r k:Nat}(f:qh m N w t)(g:uo m N w t r k){i:Nat}(ab:i<m)(Bs:i≠r)(cU:h i≠h r){ft:aii}(h1:ft[h i]? = some (ht N w t i))(o:ft[h r]? = some (ht N w t r))
 (x1 ej:Int) (az:Int) (q1:aim) (a0:ar) (bQ:ain) (v1 v2:Int) :
 HK v1 v2 (some (h r,N+1)) (some (h i,N+1)) x1 ej (((N+1:Nat):Nat):Int) (b2 w).cS (b2 w).cG az q1 a0 bQ (b2 (t.T r k*w)).cS (b2 (t.T r k*w)).cG (b2 (t.T i k*w)).cS (b2 (t.T i k*w)).cG 0 ft=some (ft.set (h i) (ht N (t.T r k*w) (t.ca r k) i)):=by
 have hw:=f.pos;have oW : ∀i,i<m-> ∀j,j<=N->eg k2 (t.T i j*w):=fun i ab j au=>(f.hN i ab j au).mono (um (by have:=rm;generalize fL=q at *;omega));have afK:eg k2 w:=f.hw.mono (um (dG _));have afL : ∀i,i<m-> ∀j,j<=N->eg k2 ((t.ca r k).T i j*(t.T r k*w)):=fun i ab j au=>(g.Bt i ab j au).mono (um (by have:=rm;generalize fL=q at *;omega));have EZ : ∀i,i<m-> ∀j,j<=N-> ∀eG,eG<m-> ∀iC,iC<=N->eg k2 (t.T i j*w*(t.T eG iC*w)):=fun i ab j au eG jk iC vJ=>((f.hN i ab j au).mul (f.hN eG jk iC vJ)).mono (by refine Nat.le_trans ?_ (Nat.le_trans (Nat.le_add_right _ _) Dy);exact Nat.mul_le_mul (by generalize fL=q;omega) (by generalize fL=q;omega));have afa : ∀j,j<=N->eg k2 ((t.ca r k).T i j*(t.T r k*w)*w):=fun j au=>((g.Bt i ab j au).mul f.hw).mono (by refine Nat.le_trans ?_ (Nat.le_trans (Nat.le_add_right _ _) Dy);exact Nat.mul_le_mul (by generalize fL=q;omega) (dG _));have ai:=g.ai;have aZ:=g.aZ;have ae:=g.ae;have uR : ∀j,(t.ca r k).T i j=t.T i j-t.T i k*(t.T r j / t.T r k):=fun j=>by simp[b7.ca,Bs]
 have KM:w≠0:=by grind
 unfold HK
 obtain⟨s,e,-⟩:=iE (f:=fun q:Int×aii=>yM v1 v2 (some (h r,N+1)) (some (h i,N+1)) x1 ej (((N+1:Nat):Nat):Int) (b2 w).cS (b2 w).cG az q1 a0 bQ (b2 (t.T r k*w)).cS (b2 (t.T r k*w)).cG (b2 (t.T i k*w)).cS (b2 (t.T i k*w)).cG q.1 q.2)
  (fun (c:Nat) (_:Unit)=>((c:Int),ft.set (h i) (a2 (N+1) fun j=>if j<c then b2 ((t.ca r k).T i j*(t.T r k*w)) else b2 (t.T i j*w)))) (N+1) (fun _ _=>True)
  (fun _=>ft.set (h i) (ht N (t.T r k*w) (t.ca r k) i))
  (fun c a8 _ _=>by
    refine⟨(),?_,trivial⟩
    have fin:(some (Sum.inl (R ((c:Int)+1),(ft.set (h i) (a2 (N+1) fun j=>if j<c then b2 ((t.ca r k).T i j*(t.T r k*w)) else b2 (t.T i j*w))).set (h i) ((a2 (N+1) fun j=>if j<c then b2 ((t.ca r k).T i j*(t.T r k*w)) else b2 (t.T i j*w)).set (0+((c:Int)).toNat) (b2 ((t.ca r k).T i c*(t.T r k*w)))))):Option ((Int×aii)⊕aii)) =
     some (Sum.inl (((c+1:Nat):Int),ft.set (h i) (a2 (N+1) fun j=>if j<c+1 then b2 ((t.ca r k).T i j*(t.T r k*w)) else b2 (t.T i j*w)))):=by
     rw[fy (by omega),dy,dF,set_set,ly];congr 4;refine eY fun j _=> ?_;by_cases bl:j=c
     ·subst bl;rw[dw rfl,dw (by omega)]
     rw[dA bl];by_cases b8:j<c
     ·rw[dw b8,dw (by omega)]
     rw[dA b8,dA (by omega)]
    have hY:uW (b2 ((t.ca r k).T i c*(t.T r k*w)*w)) (b2 w)=some (b2 ((t.ca r k).T i c*(t.T r k*w))):=ZT (afL i ab c (by omega)) afK (afa c (by omega)) KM;unfold yM;refine eF (aI (x:=(h i,N+1)) rfl (aI (x:=a2 (N+1) fun j=>if j<c then b2 ((t.ca r k).T i j*(t.T r k*w)) else b2 (t.T i j*w)) (by simp only;exact Fw h1) (dn (aI (x:=b2 (t.T i c*w)) (by simp only;rw[dy,iQ a8,dA (by omega)]) ?_))));refine aI (At (oW i ab c (by omega)) (oW r ai k (by omega))) (aI (vi (oW i ab k (by omega))) (pj (fun d=> ?_) (fun d=> ?_)))
    ·refine aI (x:=(h r,N+1)) rfl (aI (x:=ht N w t r) (by simp only;rw[I8 cU];exact o) (dn (aI (x:=b2 (t.T r c*w)) (by simp only;rw[dy];exact iQ a8) (aI (vi (oW r ai c (by omega))) (pj (fun d2=> ?_) (fun d2=> ?_))))))
     ·refine aI (At (oW i ab k (by omega)) (oW r ai c (by omega))) (aI (Ra (EZ i ab c (by omega) r ai k (by omega)) (EZ i ab k (by omega) r ai c (by omega))) (aI ?_ fin));rw[show t.T i c*w*(t.T r k*w)-t.T i k*w*(t.T r c*w)=(t.ca r k).T i c*(t.T r k*w)*w by rw[uR];grind];exact hY
     have cj:t.T r c=0:=(by have:=sV.1 (by simpa using d2);grind);refine aI ?_ fin;rw[show t.T i c*w*(t.T r k*w)=(t.ca r k).T i c*(t.T r k*w)*w by rw[uR,cj];grind];exact hY
    have cj:t.T i k=0:=(by have:=sV.1 (by simpa using d);grind);refine aI ?_ fin;rw[show t.T i c*w*(t.T r k*w)=(t.ca r k).T i c*(t.T r k*w)*w by rw[uR,cj];grind];exact hY)
  (fun _ _=>by unfold yM;refine fl ?_;simp only;congr 3;exact eY fun j au=>by rw[dw au]) () trivial
 have e0:ft.set (h i) (a2 (N+1) fun j=>if j<0 then b2 ((t.ca r k).T i j*(t.T r k*w)) else b2 (t.T i j*w))=ft:=by
  have:(a2 (N+1) fun j=>if j<0 then b2 ((t.ca r k).T i j*(t.T r k*w)) else b2 (t.T i j*w))=ht N w t i:=eY fun j _=>(by rw[dA (by omega)]);rw[this];apply ah7;intro c;rw[ah1];split
  ·rename_i e;subst e;rw[dw (ahV.1 h1).1,h1]
  rfl
 rw[e0] at e;exact e
theorem abG {m N:Nat}(fV:N<1000){h:Nat->Nat}{w:Rat}{t:b7}(hN:∀i,i<m-> ∀j,j<=N->eg fL (t.T i j*w)){i:Nat}(ab:i<m){ft:aii}(h1:ft[h i]? = some (ht N w t i))
 (x1 ej:Int) (jo:Bool) (ks:ar) (az:Int) (q1:aim) (a0:ar) (bQ:ain) :
 HM (some (h i,N+1)) x1 ej (((N+1:Nat):Nat):Int) jo ks az q1 a0 bQ 0 ft=some (ft.set (h i) (ht N (-w) t i)):=by
 have oW : ∀j,j<=N->eg k2 (t.T i j*w):=fun j au=>(hN i ab j au).mono (um (by have:=rm;generalize fL=q at *;omega));unfold HM
 obtain⟨s,e,-⟩:=iE (f:=fun q:Int×aii=>yO (some (h i,N+1)) x1 ej (((N+1:Nat):Nat):Int) jo ks az q1 a0 bQ q.1 q.2)
  (fun (c:Nat) (_:Unit)=>((c:Int),ft.set (h i) (a2 (N+1) fun j=>if j<c then b2 (t.T i j * -w) else b2 (t.T i j*w)))) (N+1) (fun _ _=>True)
  (fun _=>ft.set (h i) (ht N (-w) t i))
  (fun c a8 _ _=>by
    refine⟨(),?_,trivial⟩;unfold yO;refine eF (aI (x:=(h i,N+1)) rfl (aI (x:=a2 (N+1) fun j=>if j<c then b2 (t.T i j * -w) else b2 (t.T i j*w)) (by simp only;exact Fw h1) (dn (aI (x:=b2 (t.T i c*w)) (by simp only;rw[dy,iQ a8,dA (by omega)]) (aI (PI (oW c (by omega))) ?_)))));simp only;rw[fy (by omega),dy,dF,set_set,ly];congr 4;refine eY fun j _=> ?_;by_cases bl:j=c
    ·subst bl;rw[dw rfl,dw (by omega)];congr 1;grind
    rw[dA bl];by_cases b8:j<c
    ·rw[dw b8,dw (by omega)]
    rw[dA b8,dA (by omega)])
  (fun _ _=>by unfold yO;refine fl ?_;simp only;congr 3;exact eY fun j au=>by rw[dw au]) () trivial
 have e0:ft.set (h i) (a2 (N+1) fun j=>if j<0 then b2 (t.T i j * -w) else b2 (t.T i j*w))=ft:=by
  have:(a2 (N+1) fun j=>if j<0 then b2 (t.T i j * -w) else b2 (t.T i j*w))=ht N w t i:=eY fun j _=>(by rw[dA (by omega)]);rw[this];apply ah7;intro c;rw[ah1];split
  ·rename_i e;subst e;rw[dw (ahV.1 h1).1,h1]
  rfl
 rw[e0] at e;exact e
def pI (w:Rat)(t:b7)(r k:Nat):Rat:=if 0<t.T r k then t.T r k*w else -(t.T r k*w)
theorem RH {m N M:Nat}(hm:m<=20)(fV:N<1000){h:Nat->Nat}(inj:∀i,i<m-> ∀k,k<m->h i=h k->i=k){w:Rat}{t:b7}{r k:Nat}(f:qh m N w t)(g:uo m N w t r k){ft:aii}(hO:nH m N M h w t ft)(gK:Int)(free:ain):
 ∃lA,zs r k (b2 w).cS (b2 w).cG gK (hT m N h) ft (dr m t) free=some ((b2 (pI w t r k)).cS,(b2 (pI w t r k)).cG,lA,dr m (t.ca r k))/\nH m N M h (pI w t r k) (t.ca r k) lA:=by
 have ai:=g.ai;have aZ:=g.aZ;have ae:=g.ae;have hw:=f.pos;have oW : ∀i,i<m-> ∀j,j<=N->eg k2 (t.T i j*w):=fun i ab j au=>(f.hN i ab j au).mono (um (by have:=rm;generalize fL=q at *;omega));have sD:ht N (t.T r k*w) (t.ca r k) r=ht N w t r:=eY fun j _=>by simp only[b7.ca,if_true];congr 1;grind
 have Bz:(hT m N h).length=m:=dX ..;unfold zs
 obtain⟨p1,e1,oq,r1⟩:=iE (f:=fun q:Int×aii=>yN (r:Int) (k:Int) (some (h r,N+1)) ((m:Nat):Int) (b2 w).cS (b2 w).cG gK (hT m N h) (dr m t) free (b2 (t.T r k*w)).cS (b2 (t.T r k*w)).cG q.1 q.2)
  (fun (i:Nat) (p:aii)=>((i:Int),p)) m (fun n p=>p.length=M/\ ∀i,i<m->p[h i]? = some (if i=r\/i<n then ht N (t.T r k*w) (t.ca r k) i else ht N w t i)) (fun p=>p)
  (fun n aX p cA=>by
    obtain⟨aO,cA⟩:=cA;unfold yN;by_cases c:n=r
    ·subst c
     refine⟨p,eF (cy (by rw[Bz];simp only;omega) (aI (x:=some (h n,N+1)) (by simp only;rw[dy];exact iQ aX) (fK (by simp) ?_))),aO,fun i ab=> ?_⟩
     ·simp only;rw[fy (by omega)]
     rw[cA i ab];by_cases bl:i=n\/i<n
     ·rw[dw bl,dw (by omega)]
     rw[dA bl,dA (by omega)]
    have cU:h n≠h r:=fun e=>c (inj n aX r ai e);have h1:p[h n]? = some (ht N w t n):=(by rw[cA n aX,dA (by omega)]);have o:p[h r]? = some (ht N w t r):=(by rw[cA r ai,dw (.inl rfl),sD]);refine⟨p.set (h n) (ht N (t.T r k*w) (t.ca r k) n),eF (cy (by rw[Bz];simp only;omega) (aI (x:=some (h n,N+1)) (by simp only;rw[dy];exact iQ aX) (hI (by simp;omega) (aI (x:=(h n,N+1)) rfl (aI h1 (dn (aI (x:=b2 (t.T n k*w)) (by rw[dy];exact iQ (by omega)) (aI (abF fV f g aX c cU h1 o _ _ _ _ _ _ _ _) ?_)))))))),by rw[List.length_set];exact aO,fun i ab=> ?_⟩
    ·simp only;rw[fy (by omega)]
    by_cases bl:i=n
    ·subst bl;rw[Fw h1,dw (.inr (by omega))]
    rw[I8 (fun e=>bl (inj i ab n aX e.symm)),cA i ab];by_cases b8:i=r\/i<n
    ·rw[dw b8,dw (by omega)]
    rw[dA b8,dA (by omega)])
  (fun p _=>by unfold yN;exact fl rfl) ft ⟨hO.len,fun i ab=>by
    rw[hO.row i ab];by_cases c:i=r
    ·rw[dw (.inl c),c,sD]
    rw[dA (by omega)]⟩
 have Hl : ∀i,i<m->p1[h i]? = some (ht N (t.T r k*w) (t.ca r k) i):=fun i ab=>by rw[r1 i ab,dw (.inr ab)]
 have adZ:(dr m t).set (0+((r:Int)).toNat) (k:Int)=dr m (t.ca r k):=by rw[dy,dF];unfold dr;rw[ly];exact eY fun i _=>by simp only[b7.ca];split<;>rfl
 have lead :
  (if 0<=(r:Int)/\(r:Int)<((hT m N h).length:Nat) then
    (hT m N h)[(0+((r:Int)).toNat)]? >>= fun ej =>
    ej >>= fun j4 =>
    ft[j4.1]? >>= fun nW =>
    if 0<=(k:Int)/\(k:Int)<(j4.2:Nat) then
    nW[(0+((k:Int)).toNat)]? >>= fun c7 =>
    HL (r:Int) (k:Int) ej (((hT m N h).length:Nat):Int) (b2 w).cS (b2 w).cG gK (hT m N h) (dr m t) free c7.cS c7.cG 0 ft >>= fun da =>
    if 0<=(r:Int)/\(r:Int)<((dr m t).length:Nat) then
    if (0+((r:Int)).toNat)<(dr m t).length then
    pX c7 >>= fun gZ =>
    if (decide ((0:Int)<gZ))=true then
     some (c7.cS,c7.cG,da,(dr m t).set (0+((r:Int)).toNat) (k:Int))
    else
     tA c7 >>= fun fq =>
     E6 (((hT m N h).length:Nat):Int) fq.cS fq.cG gK (hT m N h) ((dr m t).set (0+((r:Int)).toNat) (k:Int)) free 0 da >>= fun iM =>
     some (fq.cS,fq.cG,iM,(dr m t).set (0+((r:Int)).toNat) (k:Int))
    else none else none else none else none)=(if (decide ((0:Int)<kd (t.T r k)))=true then
     some ((b2 (t.T r k*w)).cS,(b2 (t.T r k*w)).cG,p1,dr m (t.ca r k))
    else
     tA (b2 (t.T r k*w)) >>= fun fq =>
     E6 ((m:Nat):Int) fq.cS fq.cG gK (hT m N h) (dr m (t.ca r k)) free 0 p1 >>= fun iM =>
     some (fq.cS,fq.cG,iM,dr m (t.ca r k))):=by
  refine cy (by rw[Bz];omega) (aI (x:=some (h r,N+1)) (by rw[dy];exact iQ ai) (aI (x:=(h r,N+1)) rfl (aI (hO.row r ai) (dn (aI (x:=b2 (t.T r k*w)) (by rw[dy];exact iQ (by omega)) (aI (x:=p1) (by unfold HL;rw[Bz];exact e1) (cy (by unfold dr;rw[dX];omega) (cy (by unfold dr;rw[dX,dy];omega) (aI (vi (oW r ai k (by omega))) ?_)))))))));rw[AD hw,adZ,Bz]
 by_cases jZ:0<t.T r k
 ·have v9:pI w t r k=t.T r k*w:=dw jZ;refine⟨p1,lead.trans ?_,oq,fun i ab=>by rw[v9];exact Hl i ab⟩;rw[v9];exact k0 (r3.2 jZ) rfl
 have v9:pI w t r k = -(t.T r k*w):=dA jZ
 obtain⟨hX,aD,rP,bM⟩:=iE (f:=fun q:Int×aii=>yP ((m:Nat):Int) (b2 (-(t.T r k*w))).cS (b2 (-(t.T r k*w))).cG gK (hT m N h) (dr m (t.ca r k)) free q.1 q.2)
  (fun (i:Nat) (p:aii)=>((i:Int),p)) m (fun n p=>p.length=M/\ ∀i,i<m->p[h i]? = some (if i<n then ht N (-(t.T r k*w)) (t.ca r k) i else ht N (t.T r k*w) (t.ca r k) i)) (fun p=>p)
  (fun n aX p cA=>by
    obtain⟨aO,cA⟩:=cA;have h1:p[h n]? = some (ht N (t.T r k*w) (t.ca r k) n):=(by rw[cA n aX,dA (by omega)]);unfold yP;refine⟨p.set (h n) (ht N (-(t.T r k*w)) (t.ca r k) n),eF (cy (by rw[Bz];simp only;omega) (aI (x:=some (h n,N+1)) (by simp only;rw[dy];exact iQ aX) (aI (x:=(h n,N+1)) rfl (aI h1 (aI (abG fV g.Bt aX h1 _ _ _ _ _ _ _ _) ?_))))),by rw[List.length_set];exact aO,fun i ab=> ?_⟩
    ·simp only;rw[fy (by omega)]
    by_cases bl:i=n
    ·subst bl;rw[Fw h1,dw (by omega)]
    rw[I8 (fun e=>bl (inj i ab n aX e.symm)),cA i ab];by_cases b8:i<n
    ·rw[dw b8,dw (by omega)]
    rw[dA b8,dA (by omega)])
  (fun p _=>by unfold yP;exact fl rfl) p1 ⟨oq,fun i ab=>by rw[Hl i ab,dA (by omega)]⟩
 refine⟨hX,lead.trans ?_,rP,fun i ab=>by rw[v9,bM i ab,dw ab]⟩;rw[v9];exact k1 (fun c=>jZ (r3.1 c)) (aI (PI (oW r ai k (by omega))) (aI (x:=hX) (by unfold E6;exact aD) rfl))
theorem Pt {m:Nat}(hm:m<=1000)(t:b7)(j:Nat): ∃b,tM (dr m t) (j:Int)=some b/\(b=true↔ ∃i,i<m/\t.B i=j):=by
 unfold tM C1 I4
 obtain⟨r,e,h⟩:=qy (f:=fun w:Int=>tG (dr m t) (j:Int) ((m:Nat):Int) w) (fun (i:Nat) (_:Unit)=>(i:Int)) m (fun i _=> ∀k,k<i->t.B k≠j)
  (fun r=>(∃i:Nat,r = .inr (i:Int)/\i<m/\t.B i=j)\/(r = .inl ()/\ ¬∃i,i<m/\t.B i=j))
  (fun i ab _ cA=>by
    unfold tG;by_cases c:t.B i=j
    ·right;exact⟨_,eF (cy (by unfold dr;rw[dX];omega) (aI (x:=((t.B i:Nat):Int)) (by rw[dy];exact gN ab) (fK (by simp[c]) rfl))),.inl ⟨i,rfl,ab,c⟩⟩
    left;refine⟨(),eF (cy (by unfold dr;rw[dX];omega) (aI (x:=((t.B i:Nat):Int)) (by rw[dy];exact gN ab) (hI (by simp;omega) (by rw[fy (by omega)])))),fun k aZ=> ?_⟩;by_cases e:k=i
    ·rw[e];exact c
    exact cA k (by omega))
  (fun _ cA=>⟨_,by unfold tG;exact fl rfl,.inr ⟨rfl,fun ⟨i,ab,e⟩=>cA i ab e⟩⟩) () (fun k aZ=>by omega)
 rw[gj,show (dr m t).length=m from dX ..];rcases h with ⟨i,rfl,h1,o⟩|⟨rfl,h⟩
 ·exact⟨true,aI (x:=(i:Int)) (aI e rfl) (by simp),by simp only[true_iff];exact⟨i,h1,o⟩⟩
 exact⟨false,aI (x:=(-1:Int)) (aI e rfl) rfl,by simp[h]⟩
theorem C4 {m N M:Nat}{h:Nat->Nat}{w:Rat}{t:b7}{ft:aii}(hO:nH m N M h w t ft):(hT m N h).all (sq ft)=true:=by
 rw[List.all_eq_true];intro x U;obtain⟨i,ab,rfl⟩:=JJ.1 U;simp only[sq];have h1:=hO.row i ab;have o:ft.getD (h i) []=ht N w t i:=by rw[ahX,h1];rfl
 rw[o,show (ht N w t i).length=N+1 from dX ..];simp[(ahV.1 h1).1]
theorem xf {m N M:Nat}{h:Nat->Nat}{w:Rat}{t:b7}{ft:aii}(hO:nH m N M h w t ft):(hT m N h).map (i7 ft)=a2 m (ht N w t):=by unfold hT;rw[Rx];exact eY fun i ab=>by have o:ft.getD (h i) []=ht N w t i:=(by rw[ahX,hO.row i ab];rfl);simp only[i7];rw[o];exact dQ (Nat.le_of_eq (dX ..))
theorem T4 {m:Nat}{I:Nat->Rat}{t:b7}{j:Nat}:t.sy m 1 (fun _=>I) j↔0<t.cR m I j:=GH (g:=fun _=>t.cR m I j)
theorem ZV {eo m N M:Nat}{A:Nat->Nat->Rat}(hm:m<=20)(fV:N<1000){h:Nat->Nat}(inj:∀i,i<m-> ∀k,k<m->h i=h k->i=k){w:Rat}{t:b7}(ok:gv eo m N A t)(f:qh m N w t)(I:Nat->Int)(ah:∀j,j<N-> -100<=I j/\I j<=100)(dW:Nat->Bool)
 (afM : ∀r s,o6 m N 1 (fun _ j=>(I j:Rat)) (fun j=>dW j=true) t r s->uo m N w t r s) {ft:aii} (hO:nH m N M h w t ft) :
 ∃x,BF (N:Int) (b2 w).cS (b2 w).cG (hT m N h) ft (dr m t) (a2 N dW) (a2 N I) 0=some x /\
  ((x = .inl (false,(b2 w).cS,(b2 w).cG,ft,dr m t)/\ ∀j,j<N->dW j=true-> ¬0<t.cR m (fun j=>(I j:Rat)) j) \/
   (∃r s lA,x = .inl (true,(b2 (pI w t r s)).cS,(b2 (pI w t r s)).cG,lA,dr m (t.ca r s))/\o6 m N 1 (fun _ j=>(I j:Rat)) (fun j=>dW j=true) t r s/\nH m N M h (pI w t r s) (t.ca r s) lA) \/
   (x = .inr ()/\ ∃s,s<N/\dW s=true/\0<t.cR m (fun j=>(I j:Rat)) s/\ ∀i,i<m-> ¬0<t.T i s)):=by
 unfold BF
 refine qy (f:=fun q:Int=>yH (N:Int) (b2 w).cS (b2 w).cG (hT m N h) ft (dr m t) (a2 N dW) (a2 N I) q) (fun (i:Nat) (_:Unit)=>(i:Int)) N
  (fun n _=> ∀j,j<n->dW j=true-> ¬0<t.cR m (fun j=>(I j:Rat)) j) _ (fun n aX _ cA=> ?_) (fun _ cA=> ?_) () (fun j au=>by omega)
 ·have next : ∀(h4:dW n=true-> ¬0<t.cR m (fun j=>(I j:Rat)) n),∀j,j<n+1->dW j=true-> ¬0<t.cR m (fun j=>(I j:Rat)) j:=fun h4 j au=>by
   by_cases c:j=n
   ·subst c;exact h4
   ·exact cA j (by omega)
  have g1:0<=((n:Nat):Int)/\((n:Nat):Int)<((a2 N dW).length:Nat):=(by rw[dX];omega);have g2:(a2 N dW)[(0+((n:Nat):Int).toNat)]? = some (dW n):=(by rw[dy];exact iQ aX);have j5:R ((n:Int)+1)=((n+1:Nat):Int):=fy (by omega);unfold yH;by_cases q6:dW n=true;rotate_left
  ·left;have Hq:dW n=false:=(by simpa using q6);exact⟨(),eF (cy g1 (aI g2 (hI Hq (by rw[j5])))),next fun c=>(q6 c).elim⟩
  obtain⟨b,jo,ks⟩:=Pt (m:=m) (by omega) t n
  cases b with
  | true =>
   obtain⟨i,ab,gP⟩:=ks.1 rfl;left;refine⟨(),eF (cy g1 (aI g2 (fK q6 (aI jo (fK rfl (by rw[j5])))))),next fun _=> ?_⟩
   rw[<- gP,ok.Ad _ ab];grind
  | false =>
   have dj:=RG hm fV f I ah ((⟨(b2 w).cS,(b2 w).cG⟩:bI)) rfl (N:Int) (a2 N dW) aX;by_cases tz:0<t.cR m (fun j=>(I j:Rat)) n
   ·obtain⟨q,q1,a0⟩:=ZU hm fV f ((⟨(b2 w).cS,(b2 w).cG⟩:bI)) (a2 N dW) (k:=n) (by omega)
    have bX : ¬kd (t.cR m (fun j=>(I j:Rat)) n)<=0:=(by have:=r3.2 tz;omega);right;rcases a0 with ⟨rfl,o⟩|⟨b,rfl,aL,j2,aa,ao⟩
    ·exact⟨_,eF (cy g1 (aI g2 (fK q6 (aI jo (hI rfl (cy (C4 hO) (aI (by rw[xf hO];exact dj) (k1 bX (aI (by rw[xf hO];exact q1) (k0 (by decide) rfl)))))))))),.inr (.inr ⟨rfl,n,aX,q6,tz,o⟩)⟩
    have c3:o6 m N 1 (fun _ j=>(I j:Rat)) (fun j=>dW j=true) t b n:=⟨aX,q6,T4.2 tz,fun j au b5 dj=>cA j au b5 (T4.1 dj),aL,j2,aa,ao⟩;obtain⟨lA,e1,aD⟩:=RH hm fV inj f (afM b n c3) hO (N:Int) (a2 N dW);exact⟨_,eF (cy g1 (aI g2 (fK q6 (aI jo (hI rfl (cy (C4 hO) (aI (by rw[xf hO];exact dj) (k1 bX (aI (by rw[xf hO];exact q1) (fl (aI e1 rfl))))))))))),.inr (.inl ⟨b,n,lA,rfl,c3,aD⟩)⟩
   left;have bX:kd (t.cR m (fun j=>(I j:Rat)) n)<=0:=(by have : ¬0<kd (t.cR m (fun j=>(I j:Rat)) n):=fun c=>tz (r3.1 c);omega);exact⟨(),eF (cy g1 (aI g2 (fK q6 (aI jo (hI rfl (cy (C4 hO) (aI (by rw[xf hO];exact dj) (k0 bX (by rw[j5]))))))))),next fun _=>tz⟩
 exact⟨_,by unfold yH;exact fl rfl,.inl ⟨rfl,cA⟩⟩
def vE (N:Int)(rA:aim)(free:ain)(obj:ar)(s:Bool×ar×aii×ar):Option ((Bool×ar×aii×ar)⊕((Bool×ar×aii×ar)⊕(Bool×ar×aii×ar))) :=
 match BF N s.1 s.2.1 rA s.2.2.1 s.2.2.2 free obj 0 with
 | none=>none
 | some (.inl (true,bS))=>some (.inl bS)
 | some (.inl (false,bS))=>some (.inr (.inl bS))
 | some (.inr ())=>some (.inr (.inr s))
theorem abH {N:Int}{rA:aim}{free:ain}{obj:ar}: ∀s r,iter (vE N rA free obj) s=some r->HF N rA free obj true s.1 s.2.1 s.2.2.1 s.2.2.2=some r:=by
 unfold HF;apply iter.partial_correctness (vE N rA free obj) (fun s r=>iter (fun w:Bool×Bool×ar×aii×ar=>wc N rA free obj w.1 w.2.1 w.2.2.1 w.2.2.2.1 w.2.2.2.2) (true,s.1,s.2.1,s.2.2.1,s.2.2.2)=some r);intro it ih s r ai
 cases U:BF N s.1 s.2.1 rA s.2.2.1 s.2.2.2 free obj 0 with
 | none=>unfold vE at ai;rw[U] at ai;simp at ai
 | some x =>
  have hm:wc N rA free obj true s.1 s.2.1 s.2.2.1 s.2.2.2=match x with
   | .inl gh=>(some (.inl (gh.1,gh.2.1,gh.2.2.1,gh.2.2.2.1,gh.2.2.2.2)))
   | .inr gh=>(some (.inr (.inr (s.1,s.2.1,s.2.2.1,s.2.2.2)))):=by
   unfold wc;refine fK rfl ?_
   cases x with
   | inl a=>exact aI U rfl
   | inr a=>exact aI U rfl
  unfold vE at ai;rw[U] at ai;rw[iter];simp only;rw[hm]
  match x,ai with
  | .inl (true,bS),ai=>exact ih _ _ ai
  | .inl (false,bS),ai =>
   simp at ai;subst ai;show iter _ (false,bS.1,bS.2.1,bS.2.2.1,bS.2.2.2)=_;rw[iter];simp only;unfold wc;rfl
  | .inr (),ai =>
   simp at ai;subst ai;rfl
theorem abI {eo m N M:Nat}{A:Nat->Nat->Rat}(hm:m<=20)(fV:N<1000){h:Nat->Nat}{w:Rat}{t:b7}(ok:gv eo m N A t)(f:qh m N w t)(I:Nat->Int)(ah:∀j,j<N-> -100<=I j/\I j<=100)(dW:Nat->Bool){ft:aii}(hO:nH m N M h w t ft):
 HG (N:Int) (b2 w).cS (b2 w).cG (hT m N h) ft (dr m t) (a2 N I) 0 (a2 N dW)=some (a2 N fun j=>dW j && !decide (t.cR m (fun j=>(I j:Rat)) j<0)):=by
 unfold HG
 obtain⟨s,e,-⟩:=iE (f:=fun q:Int×ain=>yI (N:Int) (b2 w).cS (b2 w).cG (hT m N h) ft (dr m t) (a2 N I) q.1 q.2)
  (fun (i:Nat) (_:Unit)=>((i:Int),a2 N fun j=>if j<i then dW j && !decide (t.cR m (fun j=>(I j:Rat)) j<0) else dW j)) N (fun _ _=>True) (fun _=>a2 N fun j=>dW j && !decide (t.cR m (fun j=>(I j:Rat)) j<0))
  (fun n aX _ _=>by
    refine⟨(),?_,trivial⟩
    have same:dW n=(dW n && !decide (t.cR m (fun j=>(I j:Rat)) n<0))->(R ((n:Int)+1),a2 N fun j=>if j<n then dW j && !decide (t.cR m (fun j=>(I j:Rat)) j<0) else dW j)=(((n+1:Nat):Int),a2 N fun j=>if j<n+1 then dW j && !decide (t.cR m (fun j=>(I j:Rat)) j<0) else dW j):=fun he=>by
     rw[fy (by omega)];congr 1;refine eY fun j _=> ?_;by_cases c:j=n
     ·subst c;rw[dA (by omega),dw (by omega)];exact he
     by_cases b8:j<n
     ·rw[dw b8,dw (by omega)]
     rw[dA b8,dA (by omega)]
    have g1 : ∀F:Nat->Bool,0<=((n:Nat):Int)/\((n:Nat):Int)<((a2 N F).length:Nat):=fun F=>(by rw[dX];omega);have g2:(a2 N fun j=>if j<n then dW j && !decide (t.cR m (fun j=>(I j:Rat)) j<0) else dW j)[(0+((n:Nat):Int).toNat)]? = some (dW n):=(by rw[dy,iQ aX,dA (by omega)]);unfold yI;by_cases q6:dW n=true
    ·obtain⟨b,jo,ks⟩:=Pt (m:=m) (by omega) t n
     cases b with
     | true =>
      obtain⟨i,ab,gP⟩:=ks.1 rfl;refine eF (cy (g1 _) (aI g2 (fK q6 (aI jo (fK rfl ?_)))));simp only;rw[same];rw[<- gP,ok.Ad _ ab,decide_eq_false (by grind)];simp
     | false =>
      have dj:=RG hm fV f I ah ((⟨(b2 w).cS,(b2 w).cG⟩:bI)) rfl (N:Int) (a2 N fun j=>if j<n then dW j && !decide (t.cR m (fun j=>(I j:Rat)) j<0) else dW j) aX
      have bX:kd (t.cR m (fun j=>(I j:Rat)) n)<0↔t.cR m (fun j=>(I j:Rat)) n<0:=by
       unfold kd;by_cases c:t.cR m (fun j=>(I j:Rat)) n=0
       ·rw[dw c,c];constructor
        ·intro h;omega
        intro h;grind
       rw[dA c];by_cases b8:t.cR m (fun j=>(I j:Rat)) n<0
       ·rw[dw b8];simp[b8]
       rw[dA b8];constructor
       ·intro h;omega
       intro h;exact(b8 h).elim
      by_cases tz:t.cR m (fun j=>(I j:Rat)) n<0
      ·refine eF (cy (g1 _) (aI g2 (fK q6 (aI jo (hI rfl (cy (C4 hO) (aI (by rw[xf hO];exact dj) (k0 (bX.2 tz) (dn ?_)))))))))
       simp only;rw[fy (by omega),dy,dF,ly];congr 3;refine eY fun j _=> ?_;by_cases c:j=n
       ·subst c;rw[dw rfl,dw (by omega),decide_eq_true tz];simp
       rw[dA c];by_cases b8:j<n
       ·rw[dw b8,dw (by omega)]
       rw[dA b8,dA (by omega)]
      refine eF (cy (g1 _) (aI g2 (fK q6 (aI jo (hI rfl (cy (C4 hO) (aI (by rw[xf hO];exact dj) (k1 (fun c=>tz (bX.1 c)) ?_))))))));simp only;rw[same];rw[decide_eq_false tz];simp
    have Hq:dW n=false:=(by simpa using q6);refine eF (cy (g1 _) (aI g2 (hI Hq ?_)));simp only;rw[same];rw[Hq];simp)
  (fun _ _=>by unfold yI;refine fl ?_;simp only;congr 2;exact eY fun j au=>by rw[dw au]) () trivial
 have e0:(a2 N fun j=>if j<0 then dW j && !decide (t.cR m (fun j=>(I j:Rat)) j<0) else dW j)=a2 N dW:=eY fun j _=>by rw[dA (by omega)]
 rw[e0] at e;exact e
theorem Zf {eo m N M:Nat}{A:Nat->Nat->Rat}(hm:m<=20)(fV:N<1000){h:Nat->Nat}(inj:∀i,i<m-> ∀k,k<m->h i=h k->i=k)(I:Nat->Int)(ah:∀j,j<N-> -100<=I j/\I j<=100)(dW:Nat->Bool)
 (Inv:Rat->b7->Prop) (inv : ∀w t,Inv w t->gv eo m N A t/\t.lC m N/\qh m N w t)
 (gW : ∀w t r s,Inv w t->o6 m N 1 (fun _ j=>(I j:Rat)) (fun j=>dW j=true) t r s->uo m N w t r s/\Inv (pI w t r s) (t.ca r s)) {w:Rat} {t:b7} (cA:Inv w t) {ft:aii} (hO:nH m N M h w t ft) :
 ∃b bJ c2 lA pL,zb (b2 w).cS (b2 w).cG (N:Int) (hT m N h) ft (dr m t) (a2 N dW) (a2 N I)=some (b,(b2 bJ).cS,(b2 bJ).cG,lA,dr m c2,a2 N pL)/\Inv bJ c2/\nH m N M h bJ c2 lA /\
  ((b=true/\(∀j,j<N->dW j=true-> ¬0<c2.cR m (fun j=>(I j:Rat)) j)/\pL=fun j=>dW j && !decide (c2.cR m (fun j=>(I j:Rat)) j<0))\/(b=false/\ ∃s,s<N/\dW s=true/\0<c2.cR m (fun j=>(I j:Rat)) s/\ ∀i,i<m-> ¬0<c2.T i s)):=by
 obtain⟨ok,lh,EN⟩:=inv w t cA
 obtain⟨x,dU,c2,e,-,-,-,bJ,lA,h1,o,aa⟩:=P3 (eo:=eo) (m:=m) (N:=N) (K:=1) (A:=A) (obj:=fun _ j=>(I j:Rat)) (bU:=fun j=>dW j=true)
  (f:=vE (N:Int) (hT m N h) (a2 N dW) (a2 N I))
  (fun s t=> ∃w ft,s=((b2 w).cS,(b2 w).cG,ft,dr m t)/\Inv w t/\nH m N M h w t ft)
  (fun s x t=> ∃w ft,Inv w t/\nH m N M h w t ft/\((x = .inl ((b2 w).cS,(b2 w).cG,ft,dr m t)/\ ∀j,j<N->dW j=true-> ¬0<t.cR m (fun j=>(I j:Rat)) j) \/
    (x = .inr ((b2 w).cS,(b2 w).cG,ft,dr m t)/\ ∃s,s<N/\dW s=true/\0<t.cR m (fun j=>(I j:Rat)) s/\ ∀i,i<m-> ¬0<t.T i s)))
  (fun s t cH ok _=>by
    obtain⟨w,ft,rfl,cA,hO⟩:=cH;obtain⟨x,e,U⟩:=ZV hm fV inj ok (inv w t cA).2.2 I ah dW (fun r s b=>(gW w t r s cA b).1) hO;rcases U with ⟨rfl,U⟩|⟨r,s,lA,rfl,c3,afb⟩|⟨rfl,U⟩
    ·left;exact⟨_,by unfold vE;simp only;rw[e],w,ft,cA,hO,.inl ⟨rfl,U⟩⟩
    ·right;exact⟨_,r,s,by unfold vE;simp only;rw[e],c3,pI w t r s,lA,rfl,(gW w t r s cA c3).2,afb⟩
    left;exact⟨_,by unfold vE;simp only;rw[e],w,ft,cA,hO,.inr ⟨rfl,U⟩⟩)
  (a:=((b2 w).cS,(b2 w).cG,ft,dr m t)) (t:=t) ⟨w,ft,rfl,cA,hO⟩ ok lh
 have aD:=abH _ _ e;obtain⟨ln,ahI,afc⟩:=inv bJ c2 h1;rcases aa with ⟨rfl,aa⟩|⟨rfl,aa⟩
 ·refine⟨true,bJ,c2,lA,_,?_,h1,o,.inl ⟨rfl,aa,rfl⟩⟩;unfold zb;exact aI aD (aI (abI hm fV ln afc I ah dW o) rfl)
 refine⟨false,bJ,c2,lA,dW,?_,h1,o,.inr ⟨rfl,aa⟩⟩;unfold zb;exact aI aD rfl
def hP (m:Nat)(A:Nat->Nat->Rat)(t:b7):Rat:=if 0<t.D m A then t.D m A else -(t.D m A)
theorem acQ {m N:Nat}{A:Nat->Nat->Rat}{t:b7}(h:t.D m A≠0):0<hP m A t:=by unfold hP;split<;>grind
theorem SA {m K:Nat}{A:Nat->Nat->Rat}{t:b7}{x:Rat}(h:eg K (x*t.D m A)):eg K (x*hP m A t):=by
 unfold hP;split
 ·exact h
 have:=h.neg;rw[show x * -(t.D m A) = -(x*t.D m A) by grind];exact this
theorem lm.s8 {m N:Nat}{A:Nat->Nat->Rat}(s:Small m N A){t:b7}(h:lm m N A t):qh m N (hP m A t) t where
 pos:=acQ (N:=N) h.sE
 hw:=by have h1:eg fL (1*t.D m A):=(by rw[Rat.one_mul];exact h.EJ s);have:=SA h1;rw[Rat.one_mul] at this;exact this.mono (by generalize fL=q;omega)
 hN:=fun i ab j au=>SA (h.vU s ab au)
 gP:=h.ok.kb
theorem lm.xG {m N:Nat}{A:Nat->Nat->Rat}(s:Small m N A){t:b7}(h:lm m N A t){r k:Nat}(ai:r<m)(aZ:k<N)(ae:t.T r k≠0):uo m N (hP m A t) t r k where
 ai:=ai
 aZ:=aZ
 ae:=ae
 Bt:=fun i ab j au=>by
  have ln:=h.ok.ca ai aZ ae
  have h1:eg fL ((t.ca r k).T i j*(t.ca r k).D m A):=by
   rw[<- ln.yn ab au];refine eg.mono (AK fun dc nL c a8=> ?_) (Dx▸Ar (by omega) s.hm);simp only[gD];split
   ·exact s.sF c a8 j au
   exact s.sF c a8 _ (Nat.le_of_lt (ln.kb dc nL))
  rw[h.ok.xv ai aZ] at h1;unfold hP;split
  ·exact h1
  have:=h1.neg;rw[show (t.ca r k).T i j*(t.T r k * -(t.D m A)) = -((t.ca r k).T i j*(t.T r k*t.D m A)) by grind];exact this
theorem J7 {m N:Nat}{A:Nat->Nat->Rat}{t:b7}(h:gv m m N A t)(bF:t.D m A≠0){r k:Nat}(ai:r<m)(aZ:k<N)(ae:t.T r k≠0):pI (hP m A t) t r k=hP m A (t.ca r k):=by
 have e:=h.xv ai aZ;unfold pI hP;rw[e];by_cases bl:0<t.T r k<;>by_cases b8:0<t.D m A
 ·rw[dw bl,dw b8,dw (Rat.mul_pos bl b8)]
 ·have:=Rat.mul_pos bl (show 0 < -(t.D m A) by grind);rw[dw bl,dA b8,dA (by grind)];grind
 ·have:=Rat.mul_pos (show 0 < -(t.T r k) by grind) b8;rw[dA bl,dw b8,dA (by grind)]
 have:=Rat.mul_pos (show 0 < -(t.T r k) by grind) (show 0 < -(t.D m A) by grind);rw[dA bl,dA b8,dw (by grind)];grind
def iU (h:Nat->Nat)(t:b7):b7:=⟨fun i j=>t.T (h i) j,fun i=>t.B (h i)⟩
theorem CV {h:Nat->Nat}{t:b7}{r k i:Nat}(gf:h i=h r->i=r):(∀j,((iU h t).ca r k).T i j=(iU h (t.ca (h r) k)).T i j)/\((iU h t).ca r k).B i=(iU h (t.ca (h r) k)).B i:=by
 simp only[b7.ca,iU];by_cases c:i=r
 ·subst c;simp
 have:h i≠h r:=fun e=>c (gf e);simp[c,this]
theorem Qb {α:Type}{m i:Nat}(ab:i<m)(f:Nat->α):(a2 m f).take (i-0)++((a2 m f).drop (0+(i+1))).take (m-(i+1))=a2 (m-1) (skip i f):=by
 apply ah7;intro j;rw[Nat.sub_zero,dF];have aO:((a2 m f).take i).length=i:=by rw[List.length_take,dX];omega
 by_cases c:j<i
 ·rw[ah4 (by omega),ahZ,dw c,gN (by omega),gN (by omega)];simp only[skip];rw[dw c]
 rw[aib (by omega),aO,ahZ,ah5];by_cases b8:j<m-1
 ·rw[dw (by omega),gN (by omega),gN b8];simp only[skip];rw[dA c];congr 2;omega
 rw[dA (by omega)]
 symm
 rw[List.getElem?_eq_none_iff,dX];omega
theorem Zg {m N M n:Nat}(fV:N<1000)(aX:n<=N){h:Nat->Nat}{w:Rat}{t:b7}(f:qh m N w t){ft:aii}(hO:nH m N M h w t ft){i:Nat}(ab:i<m)(jo:Bool)(ks:ar)(az:Int)(a0:ar)(bQ:ain):
 ∃k:Nat,HN (n:Int) (i:Int) jo ks az (hT m N h) ft a0 bQ 0=some (k:Int)/\k<=n/\(k<n->t.T i k≠0)/\ ∀j,j<k->t.T i j=0:=by
 unfold HN
 obtain⟨r,e,k,rfl,h1,o,aa⟩:=qy (f:=fun q:Int=>yQ (n:Int) (i:Int) jo ks az (hT m N h) ft a0 bQ q) (fun (c:Nat) (_:Unit)=>(c:Int)) n (fun c _=> ∀j,j<c->t.T i j=0)
  (fun r=> ∃k:Nat,r=(k:Int)/\k<=n/\(k<n->t.T i k≠0)/\ ∀j,j<k->t.T i j=0)
  (fun c a8 _ cA=>by
    have hw:=f.pos;have bX:=vi ((f.hN i ab c (by omega)).mono (um (by have:=rm;generalize fL=q at *;omega)));unfold yQ;by_cases Hz:t.T i c=0
    ·left
     refine⟨(),eF (cy (by unfold hT;rw[dX];omega) (aI (x:=some (h i,N+1)) (by rw[dy];exact iQ ab) (aI (x:=(h i,N+1)) rfl (aI (hO.row i ab) (dn (aI (x:=b2 (t.T i c*w)) (by rw[dy];exact iQ (by omega)) (aI bX (fK (by rw[AD hw,sV.2 Hz];rfl) (by rw[fy (by omega)]))))))))),fun j au=> ?_⟩;by_cases e:j=c
     ·rw[e];exact Hz
     exact cA j (by omega)
    right;exact⟨_,eF (cy (by unfold hT;rw[dX];omega) (aI (x:=some (h i,N+1)) (by rw[dy];exact iQ ab) (aI (x:=(h i,N+1)) rfl (aI (hO.row i ab) (dn (aI (x:=b2 (t.T i c*w)) (by rw[dy];exact iQ (by omega)) (aI bX (hI (by rw[AD hw];exact uw (fun c=>Hz (sV.1 c))) rfl)))))))),c,rfl,by omega,fun _=>Hz,cA⟩)
  (fun _ cA=>⟨_,by unfold yQ;exact fl rfl,n,rfl,dG _,fun c=>by omega,cA⟩) () (fun j au=>by omega)
 exact⟨k,e,h1,o,aa⟩
structure m3 (m n N:Nat) (A:Nat->Nat->Rat) (t:b7) (bi:Nat) (h:Nat->Nat):Prop where
 inv:lm m N A t
 z : ∀i,i<m->n<=t.B i->t.T i N=0
 le:bi<=m
 lt : ∀i,i<bi->h i<m
 inj : ∀i,i<bi-> ∀k,k<bi->h i=h k->i=k
 dead : ∀d,d<m->(∀i,i<bi->h i≠d)->n<=t.B d/\ ∀j,j<n->t.T d j=0
theorem m3.s8 {m n N bi:Nat}{A:Nat->Nat->Rat}{t:b7}{h:Nat->Nat}(s:Small m N A)(a:m3 m n N A t bi h):qh bi N (hP m A t) (iU h t) :=
 have f:=a.inv.s8 s
 ⟨f.pos,f.hw,fun i ab j au=>f.hN (h i) (a.lt i ab) j au,fun i ab=>f.gP (h i) (a.lt i ab)⟩
theorem m3.xG {m n N bi:Nat}{A:Nat->Nat->Rat}{t:b7}{h:Nat->Nat}(s:Small m N A)(a:m3 m n N A t bi h){r k:Nat}(ai:r<bi)(aZ:k<N)(ae:t.T (h r) k≠0):uo bi N (hP m A t) (iU h t) r k :=
 have f:=a.inv.xG s (a.lt r ai) aZ ae
 ⟨ai,aZ,ae,fun i ab j au=>by rw[(CV (t:=t) (k:=k) (a.inj i ab r ai)).1 j];exact f.Bt (h i) (a.lt i ab) j au⟩
theorem m3.ca {m n N bi:Nat}{A:Nat->Nat->Rat}{t:b7}{h:Nat->Nat}(LF:n<=N)(a:m3 m n N A t bi h){r k:Nat}(ai:r<bi)(aZ:k<n)(aL:n<=t.B (h r))(ae:t.T (h r) k≠0):m3 m n N A (t.ca (h r) k) bi h:=by
 have cj:=a.z (h r) (a.lt r ai) aL
 have d7 : ∀i,(t.ca (h r) k).T i N=t.T i N:=fun i=>by
  simp only[b7.ca];split
  ·rename_i e;rw[e,cj];grind
  rw[cj];grind
 refine⟨⟨a.inv.ok.ca (a.lt r ai) (by omega) ae,fun i ab=>by rw[d7];exact a.inv.lh i ab,?_⟩,fun i ab gP=> ?_,a.le,a.lt,a.inj,fun d bF h4=> ?_⟩
 ·rw[a.inv.ok.xv (a.lt r ai) (by omega)];have:=a.inv.sE;grind
 ·rw[d7]
  simp only[b7.ca] at gP;by_cases c:i=h r
  ·rw[dw c] at gP;omega
  rw[dA c] at gP;exact a.z i ab gP
 obtain⟨h1,o⟩:=a.dead d bF h4;have cU:d≠h r:=fun e=>h4 r ai e.symm;simp only[b7.ca,dA cU];refine⟨h1,fun j au=> ?_⟩;rw[o j au,o k aZ];grind
theorem aaK {m n N:Nat}{A:Nat->Nat->Rat}(s:Small m N A)(fV:N<1000)(LF:n<=N)(free:ain){t:b7}(cb:lm m N A t)(cj:∀i,i<m->n<=t.B i->t.T i N=0){ft:aii}(hO:nH m N m (fun i=>i) (hP m A t) t ft):
 ∃c2 bi h lA,BO (n:Int) (b2 (hP m A t)).cS (b2 (hP m A t)).cG (N:Int) (hT m N fun i=>i) ft (dr m t) free=some ((b2 (hP m A c2)).cS,(b2 (hP m A c2)).cG,hT bi N h,lA,dr bi (iU h c2)) /\
  m3 m n N A c2 bi h/\(∀i,i<bi->c2.B (h i)<n)/\nH bi N m h (hP m A c2) (iU h c2) lA:=by
 have hm:=s.hm;unfold BO ML
 obtain⟨x,e,c2,bi,h,lA,rfl,h1,o,aa⟩:=jz (f:=fun w:Int×Bool×ar×aim×aii×ar=>BD (n:Int) (N:Int) free w.1 w.2.1 w.2.2.1 w.2.2.2.1 w.2.2.2.2.1 w.2.2.2.2.2)
  (fun w=> ∃(i bi:Nat) (h:Nat->Nat) (t:b7) (p:aii),w=((i:Int),(b2 (hP m A t)).cS,(b2 (hP m A t)).cG,hT bi N h,p,dr bi (iU h t))/\i<=bi/\m3 m n N A t bi h/\(∀q,q<i->t.B (h q)<n)/\nH bi N m h (hP m A t) (iU h t) p)
  (fun w=>w.2.2.2.1.length-w.1.toNat)
  (fun x=> ∃c2 bi h lA,x=((b2 (hP m A c2)).cS,(b2 (hP m A c2)).cG,hT bi N h,lA,dr bi (iU h c2))/\m3 m n N A c2 bi h/\(∀i,i<bi->c2.B (h i)<n)/\nH bi N m h (hP m A c2) (iU h c2) lA)
  (fun w hw=>by
    obtain⟨i,bi,h,t,p,rfl,ab,bC,a1,ae⟩:=hw;have lD:=bC.le;have uF:(hT bi N h).length=bi:=dX ..;have LG:(dr bi (iU h t)).length=bi:=dX ..;simp only;unfold BD;by_cases c:i<bi
    ·left
     have g1:0<=(i:Int)/\(i:Int)<((dr bi (iU h t)).length:Nat):=(by rw[LG];omega);have g2:(dr bi (iU h t))[(0+((i:Int)).toNat)]? = some ((t.B (h i):Nat):Int):=(by rw[dy];exact iQ c);by_cases E0:t.B (h i)<n
     ·refine⟨(((i+1:Nat):Int),(b2 (hP m A t)).cS,(b2 (hP m A t)).cG,hT bi N h,p,dr bi (iU h t)),k0 (by rw[uF];omega) (cy g1 (aI g2 (eF (by rw[fy (by omega)])))),⟨i+1,bi,h,t,p,rfl,by omega,bC,fun q og=> ?_,ae⟩,by simp only[uF];omega⟩
      by_cases e:q=i
      ·rw[e];exact E0
      exact a1 q (by omega)
     obtain⟨k,kX,i4,l4,LX⟩:=Zg fV LF (bC.s8 s) ae c (b2 (hP m A t)).cS (b2 (hP m A t)).cG (N:Int) (dr bi (iU h t)) free;by_cases LY:k<n
     ·have LH:t.T (h i) k≠0:=l4 LY
      obtain⟨kI,e1,aD⟩:=RH (by omega) fV bC.inj (bC.s8 s) (bC.xG s c (by omega) LH) ae (N:Int) free;have v9:pI (hP m A t) (iU h t) i k=hP m A (t.ca (h i) k):=J7 bC.inv.ok bC.inv.sE (bC.lt i c) (by omega) LH;have afN:dr bi ((iU h t).ca i k)=dr bi (iU h (t.ca (h i) k)):=eY fun q og=>(by have:=(CV (t:=t) (k:=k) (bC.inj q og i c)).2;rw[this]);rw[v9,afN] at e1;rw[v9] at aD;refine⟨(((i+1:Nat):Int),(b2 (hP m A (t.ca (h i) k))).cS,(b2 (hP m A (t.ca (h i) k))).cG,hT bi N h,kI,dr bi (iU h (t.ca (h i) k))),k0 (by rw[uF];omega) (cy g1 (aI g2 (fl (aI kX (eF (aI e1 (by rw[fy (by omega)]))))))),⟨i+1,bi,h,t.ca (h i) k,kI,rfl,by omega,bC.ca LF c LY (by omega) LH,fun q og=> ?_,aD.len,fun q og=> ?_⟩,by simp only[uF];omega⟩
      ·simp only[b7.ca]
       split
       ·exact LY
       rename_i cU;have:q≠i:=fun e=>cU (by rw[e]);exact a1 q (by omega)
      rw[aD.row q og];congr 1;exact eY fun j _=>by rw[(CV (t:=t) (k:=k) (bC.inj q og i c)).1 j]
     have LC:k=n:=(by omega);have EH:R ((i:Int)+1)=((i+1:Nat):Int):=fy (by omega);have Hj:(((hT bi N h).drop (0+(i+1))).take (bi-(i+1))).length=bi-(i+1):=(by rw[List.length_take,List.length_drop,uF];omega);have En:(((dr bi (iU h t)).drop (0+(i+1))).take (bi-(i+1))).length=bi-(i+1):=(by rw[List.length_take,List.length_drop,LG];omega);have bZ:(hT bi N h).take (i-0)++((hT bi N h).drop (0+(i+1))).take (bi-(i+1))=hT (bi-1) N (skip i h):=Qb c _;have fW:(dr bi (iU h t)).take (i-0)++((dr bi (iU h t)).drop (0+(i+1))).take (bi-(i+1))=dr (bi-1) (iU (skip i h) t):=Qb c _;refine⟨((i:Int),(b2 (hP m A t)).cS,(b2 (hP m A t)).cG,hT (bi-1) N (skip i h),p,dr (bi-1) (iU (skip i h) t)),k0 (by rw[uF];omega) (cy g1 (aI g2 (fl (aI kX (fl ?_))))),⟨i,bi-1,skip i h,t,p,rfl,by omega,⟨bC.inv,bC.z,by omega,fun q og=> ?_,fun q og a0 A1 e=> ?_,fun d bF h4=> ?_⟩,fun q og=> ?_,ae.len,fun q og=> ?_⟩,?_⟩
     ·rw[EH,dy,dy,uF,LG,Hj,En,bZ,fW];exact dn (dn (dn (dn (dn (dn (dn (dn (dn (dn (dn (dn rfl)))))))))))
     ·simp only[skip];split<;>exact bC.lt _ (by omega)
     ·simp only[skip] at e;have:=bC.inj _ (by split<;>omega) _ (by split<;>omega) e;split at this<;>split at this<;>omega
     ·by_cases Up:d=h i
      ·rw[Up];exact⟨by omega,fun j au=>LX j (by omega)⟩
      refine bC.dead d bF fun q og=> ?_;by_cases bl:q<i
      ·have:=h4 q (by omega);simp only[skip] at this;rw[dw bl] at this;exact this
      by_cases b8:q=i
      ·rw[b8];exact fun e=>Up e.symm
      have:=h4 (q-1) (by omega);simp only[skip] at this;rw[dA (by omega),show q-1+1=q by omega] at this;exact this
     ·simp only[skip];rw[dw og];exact a1 q og
     ·simp only[skip]
      by_cases bl:q<i
      ·rw[dw bl,ae.row q (by omega)];congr 1;exact eY fun j _=>by simp only[iU,skip];rw[dw bl]
      rw[dA bl,ae.row (q+1) (by omega)];congr 1;exact eY fun j _=>by simp only[iU,skip];rw[dA bl]
     simp only[uF,show (hT (bi-1) N (skip i h)).length=bi-1 from dX ..];omega
    right;have afd:i=bi:=(by omega);subst afd;exact⟨_,k1 (by rw[uF];omega) rfl,t,i,h,p,rfl,bC,a1,ae⟩)
  ((0:Int),(b2 (hP m A t)).cS,(b2 (hP m A t)).cG,hT m N (fun i=>i),ft,dr m t)
  ⟨0,m,fun i=>i,t,ft,rfl,by omega,⟨cb,cj,dG _,fun i ab=>ab,fun i _ k _ e=>e,fun d bF h4=>(h4 d bF rfl).elim⟩,fun q a1=>by omega,hO.len,hO.row⟩
 exact⟨c2,bi,h,lA,aI e rfl,h1,o,aa⟩
theorem RI:(⟨false,([]:ar)⟩:bI)=b2 0:=by show _=hD (0:Rat).num;rw[show (0:Rat).num=0 from rfl];unfold hD;rw[show L ((0:Int).natAbs:Int)=[] from vq.2 (by simp)];rfl
theorem JN {α:Type}(l:List α)(x:α):(l++[x])[l.length]? = some x:=by simp
theorem AE {α:Type}(l:List α)(x y:α):(l++[x]).set l.length y=l++[y]:=by simp
theorem RJ {p:j6}{m n:Nat}{a:Nat->Nat->Int}{b:Nat->Int}(h:nb p m n a b){i:Nat}(ab:i<m):zN i p.ix p.gz p.dq p.d4 p.jb=some (i*n,n):=by
 have hm:=h.hm;have aX:=h.aX;have h1:i*n<=20*40:=Nat.mul_le_mul (by omega) aX;have o:(i+1)*n<=20*40:=Nat.mul_le_mul (by omega) aX;have aa:(i+1)*n<=m*n:=ahY _ ab;have e1:R ((i:Int)*p.gz)=((i*n:Nat):Int):=by rw[h.gK,<- Int.natCast_mul,ch (by omega) (by omega)]
 have aD:R (R ((i:Int)+1)*p.gz)=(((i+1)*n:Nat):Int):=by rw[h.gK,fy (by omega),<- Int.natCast_mul,ch (by omega) (by omega)]
 have ao:(i+1)*n=i*n+n:=Nat.succ_mul i n;unfold zN;rw[e1,aD,dy,dy,h.gM];refine dn (dn (cy ⟨by omega,aa⟩ ?_));rw[show 0+i*n=i*n by omega,show (i+1)*n-i*n=n by omega]
theorem YO {p:j6}{m n:Nat}{a:Nat->Nat->Int}{b:Nat->Int}(h:nb p m n a b){i:Nat}(ab:i<m)(aL:b i<0)(x0:Int)(nt:Bool)(hy:ar)(a0:aim)(cr:ar)(dk:ain)(P:aii):
 Ir x0 (i:Int) P.length (n+m+1) p.ix (i*n) n ((n:Nat):Int) p.gz p.dq p.d4 p.jb nt hy a0 cr dk 0 (P++[a2 (n+m+1) fun _=>b2 0])=some (P++[a2 (n+m+1) fun j=>if j<n then b2 (c8 m n a b i j) else b2 0]):=by
 have hm:=h.hm;have aX:=h.aX;have bX:kj (b i) = -1:=by unfold kj;rw[dw aL]
 unfold Ir
 obtain⟨s1,e1,-⟩:=iE (f:=fun w:Int×aii=>zt x0 (i:Int) P.length (n+m+1) p.ix (i*n) n ((n:Nat):Int) p.gz p.dq p.d4 p.jb nt hy a0 cr dk w.1 w.2)
  (fun (k:Nat) (_:Unit)=>((k:Int),P++[a2 (n+m+1) fun j=>if j<k then b2 (c8 m n a b i j) else b2 0])) n (fun _ _=>True) (fun _=>P++[a2 (n+m+1) fun j=>if j<n then b2 (c8 m n a b i j) else b2 0])
  (fun k aZ _ _=>by
    refine⟨(),?_,trivial⟩;have bC:=h.uS i ab k aZ;have e:R ((-1:Int)*a i k)=kM m n a b i k:=(by rw[ch (by omega) (by omega)];unfold kM;rw[dw aZ,bX]);unfold zt;refine eF (dn (aI (x:=a i k) (by simp only;rw[dy];exact h.DX i ab k aZ) (aI (x:=b2 (c8 m n a b i k)) (by rw[e];exact tN (by have:=ug h ab k;rw[nw];omega)) (aI (JN _ _) (dn (aI (by simp only;rw[dy];exact iQ (by omega)) ?_))))));simp only;rw[fy (by omega),dy,dF,ly,AE];congr 5;refine eY fun j _=> ?_;by_cases bl:j=k
    ·subst bl;rw[dw rfl,dw (by omega)]
    rw[dA bl];by_cases b8:j<k
    ·rw[dw b8,dw (by omega)]
    rw[dA b8,dA (by omega)])
  (fun _ _=>by unfold zt;exact fl rfl) () trivial
 have e0:(a2 (n+m+1) fun j=>if j<0 then b2 (c8 m n a b i j) else b2 0)=a2 (n+m+1) fun _=>b2 0:=eY fun j _=>by rw[dA (by omega)]
 rw[e0] at e1;exact e1
theorem YP {p:j6}{m n:Nat}{a:Nat->Nat->Int}{b:Nat->Int}(h:nb p m n a b){i:Nat}(ab:i<m)(aL:¬b i<0)(x0:Int)(nt:Bool)(hy:ar)(a0:aim)(cr:ar)(dk:ain)(P:aii):
 Is x0 (i:Int) P.length (n+m+1) p.ix (i*n) n ((n:Nat):Int) p.gz p.dq p.d4 p.jb nt hy a0 cr dk 0 (P++[a2 (n+m+1) fun _=>b2 0])=some (P++[a2 (n+m+1) fun j=>if j<n then b2 (c8 m n a b i j) else b2 0]):=by
 have hm:=h.hm;have aX:=h.aX;have bX:kj (b i)=1:=by unfold kj;rw[dA aL]
 unfold Is
 obtain⟨s1,e1,-⟩:=iE (f:=fun w:Int×aii=>zu x0 (i:Int) P.length (n+m+1) p.ix (i*n) n ((n:Nat):Int) p.gz p.dq p.d4 p.jb nt hy a0 cr dk w.1 w.2)
  (fun (k:Nat) (_:Unit)=>((k:Int),P++[a2 (n+m+1) fun j=>if j<k then b2 (c8 m n a b i j) else b2 0])) n (fun _ _=>True) (fun _=>P++[a2 (n+m+1) fun j=>if j<n then b2 (c8 m n a b i j) else b2 0])
  (fun k aZ _ _=>by
    refine⟨(),?_,trivial⟩;have bC:=h.uS i ab k aZ;have e:R ((1:Int)*a i k)=kM m n a b i k:=(by rw[ch (by omega) (by omega)];unfold kM;rw[dw aZ,bX]);unfold zu;refine eF (dn (aI (x:=a i k) (by simp only;rw[dy];exact h.DX i ab k aZ) (aI (x:=b2 (c8 m n a b i k)) (by rw[e];exact tN (by have:=ug h ab k;rw[nw];omega)) (aI (JN _ _) (dn (aI (by simp only;rw[dy];exact iQ (by omega)) ?_))))));simp only;rw[fy (by omega),dy,dF,ly,AE];congr 5;refine eY fun j _=> ?_;by_cases bl:j=k
    ·subst bl;rw[dw rfl,dw (by omega)]
    rw[dA bl];by_cases b8:j<k
    ·rw[dw b8,dw (by omega)]
    rw[dA b8,dA (by omega)])
  (fun _ _=>by unfold zu;exact fl rfl) () trivial
 have e0:(a2 (n+m+1) fun j=>if j<0 then b2 (c8 m n a b i j) else b2 0)=a2 (n+m+1) fun _=>b2 0:=eY fun j _=>by rw[dA (by omega)]
 rw[e0] at e1;exact e1
theorem r4 {α:Type}(n:Nat)(x:α):List.replicate n x=a2 n fun _=>x:=by
 apply ah7;intro i;by_cases c:i<n
 ·rw[gN c];simp[c]
 rw[List.getElem?_eq_none_iff.2 (by simp;omega),List.getElem?_eq_none_iff.2 (by rw[dX];omega)]
theorem Pu {p:j6}{m n:Nat}{a:Nat->Nat->Int}{b:Nat->Int}(h:nb p m n a b)(nt:Bool)(hy:ar)(dk:ain):
 It ((n+m:Nat):Int) p.ix p.gz p.dq p.d4 p.jb nt hy dk 0 ([]:aim) ([]:aii) ([]:ar)=some (hT m (n+m) (fun i=>i),a2 m (fun i=>a2 (n+m+1) fun j=>b2 (c8 m n a b i j)),dr m (iT m n a b)):=by
 have hm:=h.hm;have aX:=h.aX;unfold It
 obtain⟨s,e,-⟩:=iE (f:=fun w:Int×aim×aii×ar=>zv ((n+m:Nat):Int) p.ix p.gz p.dq p.d4 p.jb nt hy dk w.1 w.2.1 w.2.2.1 w.2.2.2)
  (fun (i:Nat) (_:Unit)=>((i:Int),a2 i (fun k=>(some (k,n+m+1):b9)),a2 i (fun i=>a2 (n+m+1) fun j=>b2 (c8 m n a b i j)),a2 i (fun k=>((n+k:Nat):Int)))) m (fun _ _=>True)
  (fun _=>(hT m (n+m) (fun i=>i),a2 m (fun i=>a2 (n+m+1) fun j=>b2 (c8 m n a b i j)),dr m (iT m n a b)))
  (fun i ab _ _=>by
    refine⟨(),?_,trivial⟩;have aL:=h.ys i ab;have j5:R (((n+m:Nat):Int)+1)=((n+m+1:Nat):Int):=fy (by omega);have hw:R (p.gz+(i:Int))=((n+i:Nat):Int):=(by rw[h.gK,<- Int.natCast_add,ch (by omega) (by omega)]);have T5:(a2 i (fun i=>a2 (n+m+1) fun j=>b2 (c8 m n a b i j))).length=i:=dX ..;have pT:kM m n a b i (n+m)=kj (b i)*b i:=by unfold kM;rw[dA (by omega),dw rfl]
    have dh:((a2 (n+m+1) fun j=>if j<n then b2 (c8 m n a b i j) else b2 0).set (n+i) (b2 ((1:Int):Rat))).set (n+m) (b2 (c8 m n a b i (n+m)))=a2 (n+m+1) fun j=>b2 (c8 m n a b i j):=by
     rw[ly,ly];refine eY fun j au=> ?_;by_cases bl:j=n+m
     ·rw[dw bl,bl]
     rw[dA bl];by_cases b8:j=n+i
     ·rw[dw b8,b8,tW ab,dw rfl];rfl
     rw[dA b8];by_cases jI:j<n
     ·rw[dw jI]
     rw[dA jI];obtain⟨k,rfl⟩ : ∃k,j=n+k:=⟨j-n,by omega⟩;rw[tW (by omega),dA (by omega)]
    unfold zv;rw[j5,hw,dy];refine k0 (by simp only;rw[h.rows];omega) (dn (cy (by simp only;rw[h.yt];omega) (aI (x:=b i) (by simp only[dy,dF];exact h.GG i ab) ?_)))
    have fin:(some (Sum.inl (R ((i:Int)+1),(a2 i (fun k=>(some (k,n+m+1):b9)))++[some (i,n+m+1)],(a2 i (fun i=>a2 (n+m+1) fun j=>b2 (c8 m n a b i j)))++[a2 (n+m+1) fun j=>b2 (c8 m n a b i j)],(a2 i fun k=>((n+k:Nat):Int))++[((n+i:Nat):Int)])):Option ((Int×aim×aii×ar)⊕(aim×aii×ar))) =
     some (Sum.inl (((i+1:Nat):Int),a2 (i+1) (fun k=>(some (k,n+m+1):b9)),a2 (i+1) (fun i=>a2 (n+m+1) fun j=>b2 (c8 m n a b i j)),a2 (i+1) (fun k=>((n+k:Nat):Int)))):=by
     rw[fy (by omega),lN i (fun k=>(some (k,n+m+1):b9)),lN i (fun i=>a2 (n+m+1) fun j=>b2 (c8 m n a b i j)),lN i (fun k=>((n+k:Nat):Int))]
    have U : ∀(P:aii) (F:aih->Option ((Int×aim×aii×ar)⊕(aim×aii×ar))) (x:aih) r,F x=r->(P++[x])[P.length]? >>= F=r:=fun P F x r vZ=>aI (JN P x) vZ;refine pj (fun c=> ?_) (fun c=> ?_)
    ·have oc:b i<0:=of_decide_eq_true c;have bX:kj (b i) = -1:=(by unfold kj;rw[dw oc]);refine aI (RJ h ab) (aI (by rw[RI,r4];exact YO h ab oc _ _ _ _ _ _ _) (aI (tN (n:=1) (by rw[nw];omega)) (U _ _ _ _ ?_)));refine dn (aI (x:=b2 0) (by rw[dy,iQ (by omega),dA (by omega)]) (aI (x:=b2 (c8 m n a b i (n+m))) (by have e:R ((-1:Int)*b i)=kM m n a b i (n+m):=(by rw[pT,bX,ch (by omega) (by omega)]);rw[e];exact tN (by have:=ug h ab (n+m);rw[nw];omega)) ?_));rw[AE,dy,dF,dy,dF];refine U _ _ _ _ (dn ?_);obtain⟨v,bb⟩ : ∃v,((a2 (n+m+1) fun j=>if j<n then b2 (c8 m n a b i j) else b2 0).set (n+i) (b2 ((1:Int):Rat)))[n+m]? = some v:=(by rw[ly,gN (by omega)];exact⟨_,rfl⟩);refine aI bb (cy (by simp only[dE,dX,dI,dM];omega) (cy (by simp only[dE,dX,dI,dM];omega) ?_));rw[AE];simp only[dy,dF];rw[dh,T5];exact fin
    have oc : ¬b i<0:=of_decide_eq_false c;have bX:kj (b i)=1:=(by unfold kj;rw[dA oc]);refine aI (RJ h ab) (aI (by rw[RI,r4];exact YP h ab oc _ _ _ _ _ _ _) (aI (tN (n:=1) (by rw[nw];omega)) (U _ _ _ _ ?_)));refine dn (aI (x:=b2 0) (by rw[dy,iQ (by omega),dA (by omega)]) (aI (x:=b2 (c8 m n a b i (n+m))) (by have e:R ((1:Int)*b i)=kM m n a b i (n+m):=(by rw[pT,bX,ch (by omega) (by omega)]);rw[e];exact tN (by have:=ug h ab (n+m);rw[nw];omega)) ?_));rw[AE,dy,dF,dy,dF];refine U _ _ _ _ (dn ?_);obtain⟨v,bb⟩ : ∃v,((a2 (n+m+1) fun j=>if j<n then b2 (c8 m n a b i j) else b2 0).set (n+i) (b2 ((1:Int):Rat)))[n+m]? = some v:=(by rw[ly,gN (by omega)];exact⟨_,rfl⟩);refine aI bb (cy (by simp only[dE,dX,dI,dM];omega) (cy (by simp only[dE,dX,dI,dM];omega) ?_));rw[AE];simp only[dy,dF];rw[dh,T5];exact fin)
  (fun _ _=>by unfold zv;exact k1 (by simp only;rw[h.rows];omega) rfl) () trivial
 exact e
def q7 (n j:Nat):Int:=if n<=j then -1 else 0
theorem Sd {m n j:Nat}(au:j<n+m):((q7 n j:Int):Rat)=hh m n j:=by
 unfold q7 hh;by_cases c:n<=j
 ·rw[dw c,dw ⟨c,au⟩];rfl
 rw[dA c,dA (by omega)];rfl
theorem RK {m n:Nat}{t:b7}(gP:∀i,i<m->t.B i<n+m){j:Nat}(au:j<n+m):t.cR m (fun j=>((q7 n j:Int):Rat)) j=t.cR m (hh m n) j:=by unfold b7.cR;simp only;rw[Sd au,fX (g:=fun i=>hh m n (t.B i)*t.T i j) fun i ab=>by rw[Sd (gP i ab)]]
theorem PJ {p:j6}{m n:Nat}{a:Nat->Nat->Int}{b:Nat->Int}(h:nb p m n a b)(x0:Int)(nt:Bool)(hy:ar)(a0:aim)(bQ:aii)(cr:ar):
 Iu x0 ((n+m:Nat):Int) p.ix p.gz p.dq p.d4 p.jb nt hy a0 bQ cr 0 (a2 (n+m) fun _=>(0:Int)) (a2 (n+m) fun _=>false)=some (a2 (n+m) (q7 n),a2 (n+m) fun j=>decide (j<n)):=by
 have hm:=h.hm;have aX:=h.aX;unfold Iu
 obtain⟨s,e,-⟩:=iE (f:=fun w:Int×ar×ain=>zw x0 ((n+m:Nat):Int) p.ix p.gz p.dq p.d4 p.jb nt hy a0 bQ cr w.1 w.2.1 w.2.2)
  (fun (k:Nat) (_:Unit)=>((k:Int),(a2 (n+m) fun j=>if j<k then q7 n j else 0),a2 (n+m) fun j=>if j<k then decide (j<n) else false)) (n+m) (fun _ _=>True) (fun _=>(a2 (n+m) (q7 n),a2 (n+m) fun j=>decide (j<n)))
  (fun k aZ _ _=>by
    refine⟨(),?_,trivial⟩
    have aD:(a2 (n+m) fun j=>if j<k then decide (j<n) else false).set (0+((k:Int)).toNat) (decide (k<n))=a2 (n+m) fun j=>if j<k+1 then decide (j<n) else false:=by
     rw[dy,dF,ly];refine eY fun j _=> ?_;by_cases c:j=k
     ·subst c;rw[dw rfl,dw (by omega)]
     rw[dA c];by_cases b8:j<k
     ·rw[dw b8,dw (by omega)]
     rw[dA b8,dA (by omega)]
    have LZ:decide ((k:Int)<p.gz)=decide (k<n):=(by rw[h.gK];simp);unfold zw;simp only;rw[LZ,aD,fy (by omega)];refine eF (dn (dn ?_));by_cases c:n<=k
    ·refine k0 (by rw[h.gK];omega) (dn (dn ?_))
     rw[dy,dF,ly];congr 4;refine eY fun j _=> ?_;by_cases bl:j=k
     ·subst bl;rw[dw rfl,dw (by omega)];unfold q7;rw[dw c]
     rw[dA bl];by_cases b8:j<k
     ·rw[dw b8,dw (by omega)]
     rw[dA b8,dA (by omega)]
    refine k1 (by rw[h.gK];omega) ?_;congr 4;refine eY fun j _=> ?_;by_cases bl:j=k
    ·subst bl;rw[dA (by omega),dw (by omega)];unfold q7;rw[dA c]
    by_cases b8:j<k
    ·rw[dw b8,dw (by omega)]
    rw[dA b8,dA (by omega)])
  (fun _ _=>by
    unfold zw;refine fl ?_;simp only;congr 3
    ·exact eY fun j au=>by rw[dw au]
    exact eY fun j au=>by rw[dw au]) () trivial
 have EV:(a2 (n+m) fun j=>if j<0 then q7 n j else 0)=a2 (n+m) fun _=>(0:Int):=eY fun j _=>by rw[dA (by omega)]
 have afO:(a2 (n+m) fun j=>if j<0 then decide (j<n) else false)=a2 (n+m) fun _=>false:=eY fun j _=>by rw[dA (by omega)]
 rw[EV,afO] at e;exact e
theorem YQ {p:j6}{m n:Nat}{a:Nat->Nat->Int}{b:Nat->Int}(h:nb p m n a b){w:Rat}{t:b7}(f:qh m (n+m) w t){ft:aii}(hO:nH m (n+m) m (fun i=>i) w t ft)(nt:Bool)(hy:ar)(x0:Int)(q:ain):
 ∃r,Iv ((n+m:Nat):Int) ((m:Nat):Int) p.ix p.gz p.dq p.d4 p.jb nt hy x0 (dr m t) (hT m (n+m) fun i=>i) ft q 0=some r/\((r = .inr ()/\ ∃i,i<m/\n<=t.B i/\0<t.T i (n+m))\/(r = .inl ()/\ ∀i,i<m->n<=t.B i-> ¬0<t.T i (n+m))):=by
 have hm:=h.hm;have aX:=h.aX;have hw:=f.pos;unfold Iv
 exact qy (f:=fun w:Int=>zx ((n+m:Nat):Int) ((m:Nat):Int) p.ix p.gz p.dq p.d4 p.jb nt hy x0 (dr m t) (hT m (n+m) fun i=>i) ft q w) (fun (i:Nat) (_:Unit)=>(i:Int)) m (fun k _=> ∀i,i<k->n<=t.B i-> ¬0<t.T i (n+m)) _
  (fun i ab _ cA=>by
    have bX:=vi ((f.hN i ab (n+m) (dG _)).mono (um (by have:=rm;generalize fL=q at *;omega)));have g1:0<=(i:Int)/\(i:Int)<((dr m t).length:Nat):=(by unfold dr;rw[dX];omega);have g2:(dr m t)[(0+((i:Int)).toNat)]? = some ((t.B i:Nat):Int):=(by rw[dy];exact iQ ab);have g3:0<=(i:Int)/\(i:Int)<((hT m (n+m) fun i=>i).length:Nat):=(by unfold hT;rw[dX];omega);have g4:(hT m (n+m) fun i=>i)[(0+((i:Int)).toNat)]? = some (some (i,n+m+1)):=(by rw[dy];exact iQ ab);unfold zx;by_cases E0:n<=t.B i
    ·by_cases kt:0<t.T i (n+m)
     ·right;exact⟨_,eF (cy g1 (aI g2 (k0 (by rw[h.gK];omega) (cy g3 (aI g4 (aI (x:=(i,n+m+1)) rfl (aI (hO.row i ab) (dn (aI (x:=b2 (t.T i (n+m)*w)) (by rw[dy];exact iQ (by omega)) (aI bX (k0 (by rw[AD hw];exact r3.2 kt) rfl))))))))))),.inl ⟨rfl,i,ab,E0,kt⟩⟩
     left;refine⟨(),eF (cy g1 (aI g2 (k0 (by rw[h.gK];omega) (cy g3 (aI g4 (aI (x:=(i,n+m+1)) rfl (aI (hO.row i ab) (dn (aI (x:=b2 (t.T i (n+m)*w)) (by rw[dy];exact iQ (by omega)) (aI bX (k1 (by rw[AD hw];exact fun c=>kt (r3.1 c)) (by rw[fy (by omega)])))))))))))),fun k aZ=> ?_⟩;by_cases e:k=i
     ·rw[e];exact fun _=>kt
     exact cA k (by omega)
    left;refine⟨(),eF (cy g1 (aI g2 (k1 (by rw[h.gK];omega) (by rw[fy (by omega)])))),fun k aZ=> ?_⟩;by_cases e:k=i
    ·rw[e];exact fun c=>(E0 c).elim
    exact cA k (by omega))
  (fun _ cA=>⟨_,by unfold zx;exact fl rfl,.inr ⟨rfl,cA⟩⟩) () (fun k aZ=>by omega)
theorem YR {p:j6}{m n:Nat}{a:Nat->Nat->Int}{b:Nat->Int}(h:nb p m n a b)(F:Nat->Bool)(nt:Bool)(hy:ar)(x0:Int)(a0:aim)(bQ:aii)(cr:ar):
 Iw ((n+m:Nat):Int) p.ix p.gz p.dq p.d4 p.jb nt hy x0 a0 bQ cr 0 (a2 (n+m) F)=some (a2 (n+m) fun j=>decide (j<n)):=by
 have hm:=h.hm;have aX:=h.aX;unfold Iw
 obtain⟨s,e,-⟩:=iE (f:=fun w:Int×ain=>zy ((n+m:Nat):Int) p.ix p.gz p.dq p.d4 p.jb nt hy x0 a0 bQ cr w.1 w.2)
  (fun (k:Nat) (_:Unit)=>((k:Int),a2 (n+m) fun j=>if j<k then decide (j<n) else F j)) (n+m) (fun _ _=>True) (fun _=>a2 (n+m) fun j=>decide (j<n))
  (fun k aZ _ _=>by
    refine⟨(),?_,trivial⟩;have LZ:decide ((k:Int)<p.gz)=decide (k<n):=(by rw[h.gK];simp);unfold zy;simp only;rw[LZ,fy (by omega)];refine eF (dn (dn ?_));rw[dy,dF,ly];congr 3;refine eY fun j _=> ?_;by_cases c:j=k
    ·subst c;rw[dw rfl,dw (by omega)]
    rw[dA c];by_cases b8:j<k
    ·rw[dw b8,dw (by omega)]
    rw[dA b8,dA (by omega)])
  (fun _ _=>by unfold zy;refine fl ?_;simp only;congr 2;exact eY fun j au=>by rw[dw au]) () trivial
 have EV:(a2 (n+m) fun j=>if j<0 then decide (j<n) else F j)=a2 (n+m) F:=eY fun j _=>by rw[dA (by omega)]
 rw[EV] at e;exact e
theorem T6 {m n:Nat}{a:Nat->Nat->Int}{b:Nat->Int}:hP m (c8 m n a b) (iT m n a b)=1:=by unfold hP;rw[R4,dw (by grind)]
theorem abJ {p:j6}{m n:Nat}{a:Nat->Nat->Int}{b:Nat->Int}(h:nb p m n a b):
 ∃r,Cz p.ix p.gz p.dq p.d4 p.jb=some r/\((vA m n a b/\ ∃t bi g ft,r = .inl ((b2 (hP m (c8 m n a b) t)).cS,(b2 (hP m (c8 m n a b) t)).cG,((n+m:Nat):Int),hT bi (n+m) g,dr bi (iU g t),a2 (n+m) (fun j=>decide (j<n)),ft) /\
  m3 m n (n+m) (c8 m n a b) t bi g/\(∀i,i<bi->t.B (g i)<n)/\nH bi (n+m) m g (hP m (c8 m n a b) t) (iU g t) ft)\/(¬vA m n a b/\r = .inr ())):=by
 have hm:=h.hm;have aX:=h.aX;have nu:=Jk h;have fV:R (p.gz+p.ix)=((n+m:Nat):Int):=by rw[h.gK,h.rows,<- Int.natCast_add,ch (by omega) (by omega)]
 have afe:nH m (n+m) m (fun i=>i) (hP m (c8 m n a b) (iT m n a b)) (iT m n a b) (a2 m (fun i=>a2 (n+m+1) fun j=>b2 (c8 m n a b i j))):=⟨dX ..,fun i ab=>by rw[gN ab,T6];congr 1;exact eY fun j _=>by show b2 (c8 m n a b i j)=b2 (c8 m n a b i j*1);congr 1;grind⟩
 obtain⟨q,bJ,t,ft,pL,e,⟨cA,rfl⟩,hO,en⟩:=Zf (eo:=m) (m:=m) (N:=n+m) (M:=m) (A:=c8 m n a b) hm (by omega) (h:=fun i=>i) (fun i _ k _ e=>e) (q7 n) (fun j _=>by unfold q7;split<;>omega) (fun j=>decide (j<n))
  (fun w t=>lm m (n+m) (c8 m n a b) t/\w=hP m (c8 m n a b) t) (fun w t cA=>⟨cA.1.ok,cA.1.lh,cA.2▸cA.1.s8 nu⟩)
  (fun w t r s cA b=>by obtain⟨h1,rfl⟩:=cA;have ae:t.T r s≠0:=(by have:=b.pos;grind);exact⟨h1.xG nu b.ai b.bX ae,h1.gW b,J7 h1.ok h1.sE b.ai b.bX ae⟩)
  (w:=hP m (c8 m n a b) (iT m n a b)) (t:=iT m n a b) ⟨⟨Ry,Qv,QY⟩,rfl⟩ afe
 rw[T6] at e
 have ad0 : ∀j,j<n->t.cR m (hh m n) j<=0:=by
  rcases en with ⟨-,en,-⟩|⟨-,s,bX,-,dj,h4⟩
  ·intro j au;have:=en j (by omega) (by simpa using au);rw[RK cA.ok.kb (by omega)] at this;grind
  rw[RK cA.ok.kb bX] at dj;obtain⟨i,ab,ae⟩:=Pm cA.ok bX dj;exact(h4 i ab ae).elim
 have e1:pk 1=some (b2 1):=by have:=tN (n:=1) (by rw[nw];omega);rw[show ((1:Int):Rat)=1 from rfl] at this;exact this
 obtain⟨r,r1,bM⟩:=YQ h (cA.s8 nu) hO (b2 (hP m (c8 m n a b) t)).cS (b2 (hP m (c8 m n a b) t)).cG ((n+m:Nat):Int) (a2 (n+m) pL);unfold Cz;rw[fV];rcases bM with ⟨rfl,i,ab,gP,hN⟩|⟨rfl,h4⟩
 ·have D2 : ¬vA m n a b:=fun bX=>by
   have:=PG cA.lh (P4 cA.ok cA.lh ad0 bX) cA.ok.kb i ab gP;grind
  refine⟨_,aI e1 (dn (aI (Pu h _ _ _) (dn (aI (x:=(a2 (n+m) (q7 n),a2 (n+m) fun j=>decide (j<n))) (by rw[dy,r4,r4];exact PJ h _ _ _ _ _ _) (aI e ?_))))),.inr ⟨D2,rfl⟩⟩;refine aI (x:= .inr ()) ?_ rfl;simp only;rw[show ((dr m t).length:Nat)=m from dX ..];exact r1
 have cj : ∀i,i<m->n<=t.B i->t.T i (n+m)=0:=fun i ab gP=>by have h1:=h4 i ab gP;have o:=cA.lh i ab;grind
 have bX:vA m n a b:=PF cA.ok cA.lh cj;obtain⟨c2,bi,g,lA,oq,rP,LS,km⟩:=aaK (n:=n) nu (by omega) (by omega) (a2 (n+m) fun j=>decide (j<n)) cA cj hO;refine⟨_,aI e1 (dn (aI (Pu h _ _ _) (dn (aI (x:=(a2 (n+m) (q7 n),a2 (n+m) fun j=>decide (j<n))) (by rw[dy,r4,r4];exact PJ h _ _ _ _ _ _) (aI e ?_))))),.inl ⟨bX,c2,bi,g,lA,rfl,rP,LS,km⟩⟩;refine aI (x:= .inl ()) ?_ ?_
 ·simp only;rw[show ((dr m t).length:Nat)=m from dX ..];exact r1
 simp only;rw[show ((a2 (n+m) pL).length:Nat)=n+m from dX ..];refine aI (YR h pL _ _ _ _ _ _) ?_;rw[h.gK];exact aI oq rfl
structure pS (m:Nat) (u v:b7):Prop where
 T : ∀i,i<m-> ∀j,u.T i j=v.T i j
 B : ∀i,i<m->u.B i=v.B i
theorem pS.s8 {m N:Nat}{w:Rat}{u v:b7}(s:pS m u v)(h:qh m N w v):qh m N w u :=
 ⟨h.pos,h.hw,fun i ab j au=>by rw[s.T i ab];exact h.hN i ab j au,fun i ab=>by rw[s.B i ab];exact h.gP i ab⟩
theorem pS.ca {m:Nat}{u v:b7}(s:pS m u v){r:Nat}(ai:r<m)(k:Nat):pS m (u.ca r k) (v.ca r k) where
 T:=fun i ab j=>by simp only[b7.ca,s.T i ab,s.T r ai]
 B:=fun i ab=>by simp only[b7.ca,s.B i ab]
theorem pS.xG {m N:Nat}{w:Rat}{u v:b7}(s:pS m u v){r k:Nat}(h:uo m N w v r k):uo m N w u r k :=
 ⟨h.ai,h.aZ,by rw[s.T r h.ai];exact h.ae,fun i ab j au=>by rw[(s.ca h.ai k).T i ab,s.T r h.ai];exact h.Bt i ab j au⟩
theorem pS.trans {m:Nat}{u v t:b7}(a:pS m u v)(b:pS m v t):pS m u t:=⟨fun i ab j=>(a.T i ab j).trans (b.T i ab j),fun i ab=>(a.B i ab).trans (b.B i ab)⟩
theorem acf {bi:Nat}{g:Nat->Nat}(inj:∀i,i<bi-> ∀k,k<bi->g i=g k->i=k)(t:b7){r:Nat}(ai:r<bi)(k:Nat):pS bi ((iU g t).ca r k) (iU g (t.ca (g r) k)) :=
 ⟨fun i ab j=>(CV (t:=t) (k:=k) (inj i ab r ai)).1 j,fun i ab=>(CV (t:=t) (k:=k) (inj i ab r ai)).2⟩
theorem Se {m n:Nat}{a:Nat->Nat->Int}{b:Nat->Int}{x:Nat->Rat}{c:Nat}:cq n (fun j=>c8 m n a b c j*x j)=((kj (b c):Int):Rat)*cq n (fun j=>(a c j:Rat)*x j):=by rw[<- jy];exact fX fun j au=>by rw[JZ au];grind
theorem m3.acR {m n:Nat}{a:Nat->Nat->Int}{b:Nat->Int}{t:b7}{bi:Nat}{g:Nat->Nat}(h:m3 m n (n+m) (c8 m n a b) t bi g)(gP:∀i,i<bi->t.B (g i)<n):LT m n a b bi (n+m) (iU g t) where
 eqv:=fun x=>by
  have key:(∀i,i<m->cq n (fun j=>(a i j:Rat)*x j)=(b i:Rat))↔ ∀i,i<m->cq n (fun j=>c8 m n a b i j*x j)=c8 m n a b i (n+m):=by
   constructor
   ·intro U i ab;rw[Se,Ge,U i ab]
   intro U i ab;have:=U i ab;rw[Se,Ge] at this;have h0:=R3 (b i);have e:((kj (b i):Int):Rat)*(cq n (fun j=>(a i j:Rat)*x j)-(b i:Rat))=0:=(by grind);rcases Rat.mul_eq_zero.1 e with e|e
   ·exact(h0 e).elim
   grind
  rw[key];constructor
  ·intro U i ab;obtain⟨W,hW⟩:=h.inv.ok.row;show cq n (fun j=>t.T (g i) j*x j)=t.T (g i) (n+m);rw[hW (g i) (h.lt i ab) (n+m) (dG _),fX (g:=fun j=>cq m (fun c=>W (g i) c*(c8 m n a b c j*x j))) (fun j au=>by rw[hW (g i) (h.lt i ab) j (by omega),<- va];exact fX fun c _=>by grind),p4];exact fX fun c a8=>by rw[jy,U c a8]
  intro U c a8
  have row : ∀i,i<m->cq n (fun j=>t.T i j*x j)=t.T i (n+m):=fun i ab=>by
   by_cases bU : ∃q,q<bi/\g q=i
   ·obtain⟨q,a1,rfl⟩:=bU;exact U q a1
   obtain⟨d1,d2⟩:=h.dead i ab fun q a1 e=>bU ⟨q,a1,e⟩;rw[h.z i ab d1];exact o1 fun j au=>by rw[d2 j au];grind
  rw[h.inv.ok.st c a8 (n+m) (dG _),fX (g:=fun j=>cq m (fun i=>c8 m n a b c (t.B i)*(t.T i j*x j))) (fun j au=>by rw[h.inv.ok.st c a8 j (by omega),<- va];exact fX fun i _=>by grind),p4];exact fX fun i ab=>by rw[jy,row i ab]
 unit:=fun i ab k aZ=>by
  show t.T (g i) (t.B (g k))=_;rw[h.inv.ok.unit _ (h.lt i ab) _ (h.lt k aZ)];by_cases c:i=k
  ·rw[dw c,dw (by rw[c])]
  rw[dA c,dA fun e=>c (h.inj i ab k aZ e)]
 kb:=gP
 lh:=fun i ab=>h.inv.lh _ (h.lt i ab)
 LR:=by omega
theorem m3.step {m n:Nat}{a:Nat->Nat->Int}{b:Nat->Int}{t:b7}{bi:Nat}{g:Nat->Nat}{K:Nat}{obj:Nat->Nat->Rat}{bU:Nat->Prop}(h:m3 m n (n+m) (c8 m n a b) t bi g)(gP:∀i,i<bi->t.B (g i)<n){u:b7}(bX:pS bi u (iU g t)){r s:Nat}(c3:o6 bi (n+m) K obj bU u r s)(xS:s<n):
 m3 m n (n+m) (c8 m n a b) (t.ca (g r) s) bi g/\(∀i,i<bi->(t.ca (g r) s).B (g i)<n)/\pS bi (u.ca r s) (iU g (t.ca (g r) s)):=by
 have ai:=c3.ai;have ae:0<t.T (g r) s:=by have:=c3.pos;rw[bX.T r ai] at this;exact this
 have EC:t.T (g r) s≠0:=by grind
 have SY:=(bX.ca ai s).trans (acf h.inj t ai s);have yu : ∀d,d<m->(∀i,i<bi->g i≠d)-> ∀j,(t.ca (g r) s).T d j=t.T d j/\(t.ca (g r) s).B d=t.B d:=fun d bF h4 j=>by obtain⟨d1,d2⟩:=h.dead d bF h4;simp only[b7.ca];rw[dA fun e=>h4 r ai e.symm,dA fun e=>h4 r ai e.symm,d2 s xS];exact⟨by grind,rfl⟩
 have qi : ∀i,i<bi->(t.ca (g r) s).B (g i)<n:=fun i ab=>by
  simp only[b7.ca];split
  ·exact xS
  exact gP i ab
 have aff:(u.ca r s).lC bi (n+m):=c3.DT fun i ab=>by rw[bX.T i ab];exact h.inv.lh _ (h.lt i ab)
 refine⟨⟨⟨h.inv.ok.ca (h.lt r ai) (by omega) EC,fun i ab=> ?_,?_⟩,fun i ab aX=> ?_,h.le,h.lt,h.inj,fun d bF h4=> ?_⟩,qi,SY⟩
 ·by_cases bU : ∃q,q<bi/\g q=i
  ·obtain⟨q,a1,rfl⟩:=bU;have:=aff q a1;rw[SY.T q a1] at this;exact this
  rw[(yu i ab (fun q a1 e=>bU ⟨q,a1,e⟩) _).1];exact h.inv.lh i ab
 ·rw[h.inv.ok.xv (h.lt r ai) (by omega)];have:=h.inv.sE;grind
 ·by_cases bU : ∃q,q<bi/\g q=i
  ·obtain⟨q,a1,rfl⟩:=bU;have:=qi q a1;omega
  have h4 : ∀q,q<bi->g q≠i:=fun q a1 e=>bU ⟨q,a1,e⟩;obtain⟨e1,aD⟩:=yu i ab h4 (n+m);rw[e1];rw[aD] at aX;exact h.z i ab aX
 obtain⟨d1,d2⟩:=h.dead d bF h4;refine⟨by rw[(yu d bF h4 0).2];exact d1,fun j au=>by rw[(yu d bF h4 j).1];exact d2 j au⟩
structure EK (m n:Nat) (a:Nat->Nat->Int) (b:Nat->Int) (bi:Nat) (g:Nat->Nat) (jq:Nat->Nat->Rat) (dW:Nat->Bool) (w:Rat) (u:b7):Prop where
 bU : ∃t,m3 m n (n+m) (c8 m n a b) t bi g/\(∀i,i<bi->t.B (g i)<n)/\pS bi u (iU g t)/\w=hP m (c8 m n a b) t
 lt:LT m n a b bi (n+m) u
 ok:gv bi bi (n+m) jq u
 afP : ∀i,i<bi->dW (u.B i)=true
theorem EK.s8 {m n:Nat}{a:Nat->Nat->Int}{b:Nat->Int}{bi:Nat}{g:Nat->Nat}{jq:Nat->Nat->Rat}{dW:Nat->Bool}{w:Rat}{u:b7}(nu:Small m (n+m) (c8 m n a b))(h:EK m n a b bi g jq dW w u):qh bi (n+m) w u:=by obtain⟨t,h1,o,aa,rfl⟩:=h.bU;exact aa.s8 (h1.s8 nu)
theorem EK.gW {m n:Nat}{a:Nat->Nat->Int}{b:Nat->Int}{bi:Nat}{g:Nat->Nat}{jq:Nat->Nat->Rat}{dW pL:Nat->Bool}{w:Rat}{u:b7}{obj:Nat->Nat->Rat}{K:Nat}(nu:Small m (n+m) (c8 m n a b))(h:EK m n a b bi g jq pL w u)(Eo:∀j,j<n+m->dW j=true->j<n)(afg:∀j,dW j=true->pL j=true){r s:Nat}(c3:o6 bi (n+m) K obj (fun j=>dW j=true) u r s):
 uo bi (n+m) w u r s/\EK m n a b bi g jq pL (pI w u r s) (u.ca r s):=by
 obtain⟨t,h1,o,aa,ao⟩:=h.bU;have xS:=Eo s c3.bX c3.G5;obtain⟨g1,g2,g3⟩:=h1.step o aa c3 xS;have ae:=c3.pos;have T7:t.T (g r) s≠0:=by rw[aa.T r c3.ai] at ae;show t.T (g r) s≠0;have:0<t.T (g r) s:=ae;grind
 refine⟨ao▸aa.xG (h1.xG nu c3.ai (by omega) T7),⟨t.ca (g r) s,g1,g2,g3,?_⟩,h.lt.ca c3.ai xS (by grind) (c3.DT h.lt.lh),c3.ok h.ok,fun i ab=> ?_⟩
 ·rw[<- J7 h1.inv.ok h1.inv.sE (h1.lt r c3.ai) (show s<n+m by omega) T7,ao];unfold pI;rw[aa.T r c3.ai];rfl
 simp only[b7.ca];split
 ·exact afg s c3.G5
 exact h.afP i ab
def ph (n N j:Nat):Nat:=if j=n then N else j
theorem Di {n N j:Nat}(h:j<n):ph n N j=j:=by unfold ph;rw[dA (by omega)]
theorem Gs {n N:Nat}:ph n N n=N:=by unfold ph;rw[dw rfl]
theorem Gh {n N j:Nat}(aX:n<=N)(h:j<=n):ph n N j<=N:=by unfold ph;split<;>omega
structure vF (m n:Nat) (a:Nat->Nat->Int) (b:Nat->Int) (bi:Nat) (g:Nat->Nat) (jq:Nat->Nat->Rat) (u:b7):Prop where
 ok:gv bi bi n jq u
 bU : ∃t,m3 m n (n+m) (c8 m n a b) t bi g/\(∀i,i<bi->t.B (g i)<n)/\ ∀i,i<bi->(∀j,j<=n->u.T i j=t.T (g i) (ph n (n+m) j))/\u.B i=t.B (g i)
theorem acg {m n:Nat}{a:Nat->Nat->Int}{b:Nat->Int}{bi:Nat}{g:Nat->Nat}{u t:b7}(h1:m3 m n (n+m) (c8 m n a b) t bi g)(o:∀i,i<bi->t.B (g i)<n)(aa:∀i,i<bi->(∀j,j<=n->u.T i j=t.T (g i) (ph n (n+m) j))/\u.B i=t.B (g i)):LT m n a b bi n u:=by
 have L:=h1.acR o;refine⟨fun x=> ?_,fun i ab k aZ=> ?_,fun i ab=>by rw[(aa i ab).2];exact o i ab,fun i ab=> ?_,dG _⟩
 ·rw[L.eqv x]
  constructor<;>intro U i ab
  ·have:=U i ab;rw[(aa i ab).1 n (dG _),Gs,fX (g:=fun j=>(iU g t).T i j*x j) fun j au=>by rw[(aa i ab).1 j (by omega),Di au];rfl];exact this
  have:=U i ab;rw[(aa i ab).1 n (dG _),Gs,fX (g:=fun j=>(iU g t).T i j*x j) fun j au=>by rw[(aa i ab).1 j (by omega),Di au];rfl] at this;exact this
 ·have aL:t.B (g k)<n:=o k aZ;rw[(aa k aZ).2,(aa i ab).1 _ (by omega),Di aL];exact L.unit i ab k aZ
 show 0<=u.T i n;rw[(aa i ab).1 n (dG _),Gs];exact L.lh i ab
theorem vF.lt {m n:Nat}{a:Nat->Nat->Int}{b:Nat->Int}{bi:Nat}{g:Nat->Nat}{jq:Nat->Nat->Rat}{u:b7}(h:vF m n a b bi g jq u):LT m n a b bi n u:=by obtain⟨t,h1,o,aa⟩:=h.bU;exact acg h1 o aa
theorem abK {m bi:Nat}{g:Nat->Nat}(lt:∀i,i<bi->g i<m)(inj:∀i,i<bi-> ∀k,k<bi->g i=g k->i=k){F:Nat->Rat}(cj:∀d,d<m->(∀i,i<bi->g i≠d)->F d=0):cq m F=cq bi (fun i=>F (g i)):=by
 have e : ∀i,i<m->F i=cq bi (fun q=>if g q=i then F (g q) else 0):=fun i ab=>by
  by_cases bU : ∃q,q<bi/\g q=i
  ·obtain⟨q,a1,rfl⟩:=bU;rw[k4 a1 (f:=fun p=>if g p=g q then F (g p) else 0) fun p ae cU=>dA fun e=>cU (inj p ae q a1 e),dw rfl]
  rw[cj i ab fun q a1 e=>bU ⟨q,a1,e⟩];exact(o1 fun q a1=>dA fun e=>bU ⟨q,a1,e⟩).symm
 rw[fX e,p4];exact fX fun q a1=>by rw[k4 (lt q a1) (f:=fun i=>if g q=i then F (g q) else 0) fun i _ cU=>dA fun e=>cU e.symm,dw rfl]
theorem QE {m n:Nat}{a:Nat->Nat->Int}{b:Nat->Int}{bi:Nat}{g:Nat->Nat}{t u:b7}(h1:m3 m n (n+m) (c8 m n a b) t bi g)(aa:∀i,i<bi->(∀j,j<=n->u.T i j=t.T (g i) (ph n (n+m) j))/\u.B i=t.B (g i)){I:Nat->Rat}(ah:∀j,n<=j->I j=0){j:Nat}(au:j<=n):u.cR bi I j=t.cR m I (ph n (n+m) j):=by
 unfold b7.cR
 have e0:I (ph n (n+m) j)=I j:=by
  unfold ph;by_cases c:j=n
  ·rw[dw c,ah _ (by omega),ah _ (by omega)]
  rw[dA c]
 rw[e0,abK h1.lt h1.inj (F:=fun i=>I (t.B i)*t.T i (ph n (n+m) j)) fun d bF h4=>by rw[ah _ (h1.dead d bF h4).1];grind];congr 1;exact fX fun i ab=>by rw[(aa i ab).1 j au,(aa i ab).2]
theorem vF.fits {m n:Nat}{a:Nat->Nat->Int}{b:Nat->Int}{bi:Nat}{g:Nat->Nat}{jq:Nat->Nat->Rat}{u:b7}(nu:Small m (n+m) (c8 m n a b))(h:vF m n a b bi g jq u):
 (∀i,i<bi-> ∀j,j<=n->gu (u.T i j))/\(∀i,i<bi-> ∀j,j<=n->0<u.T i j->gu (u.T i n / u.T i j)):=by
 obtain⟨t,h1,o,aa⟩:=h.bU;refine⟨fun i ab j au=> ?_,fun i ab j au ae=> ?_⟩
 ·rw[(aa i ab).1 j au];exact h1.inv.KE nu (h1.lt i ab) (Gh (by omega) au)
 rw[(aa i ab).1 j au] at ae ⊢;rw[(aa i ab).1 n (dG _),Gs];exact h1.inv.SV nu (h1.lt i ab) (Gh (by omega) au) ae
theorem vF.DY {m n:Nat}{a:Nat->Nat->Int}{b:Nat->Int}{bi:Nat}{g:Nat->Nat}{jq:Nat->Nat->Rat}{u:b7}(nu:Small m (n+m) (c8 m n a b))(h:vF m n a b bi g jq u){I:Nat->Rat}(ah:∀j,n<=j->I j=0)(hw:∀j,eg 100 (I j)){j:Nat}(au:j<=n):gu (u.cR bi I j):=by obtain⟨t,h1,o,aa⟩:=h.bU;rw[QE h1 aa ah au];exact h1.inv.DY nu (fun j _=>hw j) (Gh (by omega) au)
theorem vF.KF {m n:Nat}{a:Nat->Nat->Int}{b:Nat->Int}{bi:Nat}{g:Nat->Nat}{jq:Nat->Nat->Rat}{u:b7}(nu:Small m (n+m) (c8 m n a b))(h:vF m n a b bi g jq u){I:Nat->Rat}(ah:∀j,n<=j->I j=0)(hw:∀j,eg 100 (I j)){r k:Nat}(ai:r<bi)(aZ:k<n)(ae:u.T r k≠0):GF bi n u (u.cR bi I) r k:=by
 obtain⟨t,h1,o,aa⟩:=h.bU;have tx : ∀i,i<bi->u.T i k=t.T (g i) k:=fun i ab=>by rw[(aa i ab).1 k (by omega),Di aZ]
 have lE:t.T (g r) k≠0:=by rw[<- tx r ai];exact ae
 have P:=h1.inv.KF nu (I:=I) (fun j _=>hw j) (h1.lt r ai) (show k<n+m by omega) lE (h1.inv.ok.ca (h1.lt r ai) (by omega) lE);have L0 : ∀j,j<=n->u.cR bi I j=t.cR m I (ph n (n+m) j):=fun j au=>QE h1 aa ah au;have Uq:u.cR bi I k=t.cR m I k:=by rw[L0 k (by omega),Di aZ]
 have pl : ∀j,j<=n->ph n (n+m) j<=n+m:=fun j au=>Gh (by omega) au;refine⟨fun i ab j au=> ?_,fun i ab j au=> ?_,fun i ab cU j au=> ?_,fun j au=> ?_,fun j au=> ?_,fun j au=> ?_⟩
 ·rw[(aa i ab).1 j au];exact P.T _ (h1.lt i ab) _ (pl j au)
 ·have e:(u.ca r k).T i j=(t.ca (g r) k).T (g i) (ph n (n+m) j):=by
   simp only[b7.ca];by_cases c:i=r
   ·subst c;rw[dw rfl,dw rfl,(aa i ab).1 j au,tx i ab]
   ·rw[dA c,dA fun e=>c (h1.inj i ab r ai e),(aa i ab).1 j au,(aa r ai).1 j au,tx i ab,tx r ai]
  rw[e];exact P.iP _ (h1.lt i ab) _ (pl j au)
 ·rw[tx i ab,tx r ai,(aa r ai).1 j au];exact P.M _ (h1.lt i ab) (fun e=>cU (h1.inj i ab r ai e)) _ (pl j au)
 ·rw[L0 j au];exact P.a8 _ (pl j au)
 ·rw[L0 j au,Uq,tx r ai,(aa r ai).1 j au];exact P.ta _ (pl j au)
 rw[Uq,tx r ai,(aa r ai).1 j au];exact P.hm _ (pl j au)
structure KG (m n:Nat) (a:Nat->Nat->Int) (b:Nat->Int) (i:Nat) (t:b7):Prop where
 bU:m3 m n (n+m) (c8 m n a b) t m fun q=>q
 Ur : ∀q,q<i->t.B q<n\/ ∀j,j<n->t.T q j=0
theorem KG.ca {m n:Nat}{a:Nat->Nat->Int}{b:Nat->Int}{i:Nat}{t:b7}(h:KG m n a b i t){k:Nat}(ab:i<m)(aZ:k<n)(aL:n<=t.B i)(ae:t.T i k≠0):KG m n a b i (t.ca i k) where
 bU:=h.bU.ca (by omega) ab aZ aL ae
 Ur:=fun q a1=>by
  simp only[b7.ca];rw[dA (by omega)];rcases h.Ur q a1 with d|d
  ·exact .inl d
  exact .inr fun j au=>by rw[dA (by omega),d j au,d k aZ];grind
def vG (k:Nat)(x:b1):air:=(if x.gy=2 then [] else [⟨(k:Int),1⟩])++(if x.gy=1 then [] else [⟨(k:Int),-1⟩])
def mi (ee:aik):Nat->air
 | 0=>[]
 | n+1=>mi ee n++(match ee[n]? with
  | some x=>vG n x
  | none=>[])
theorem FW (ee:aik): ∀n,(mi ee n).length<=2*n
 | 0=>by simp[mi]
 | n+1=>by
  have:=FW ee n;rw[mi,dE]
  have o:(match ee[n]? with
   | some x=>vG n x
   | none=>[]).length<=2:=by
   split
   ·rename_i x _;unfold vG;rw[dE];split<;>split<;>simp
   simp
  omega
theorem Rc {ee:aik}: ∀ {n:Nat} {c:fe},n<=ee.length->c∈mi ee n-> ∃k:Nat,c.nz=k/\k<n/\(c.rs=1\/c.rs = -1)
 | 0,c,_,h=>by simp[mi] at h
 | n+1,c,aX,h=>by
  rw[mi,List.mem_append] at h;rcases h with h|h
  ·obtain⟨k,h1,o,aa⟩:=Rc (by omega) h;exact⟨k,h1,by omega,aa⟩
  rw[dx (by omega)] at h;simp only[vG,List.mem_append] at h;rcases h with h|h
  ·split at h
   ·simp at h
   simp at h;subst h;exact⟨n,rfl,by omega,.inl rfl⟩
  split at h
  ·simp at h
  simp at h;subst h;exact⟨n,rfl,by omega,.inr rfl⟩
theorem ZW (s:cv)(er:s.bh.length<=1000):BI s=some (mi s.bh s.bh.length):=by
 unfold BI Mq;rw[ff]
 obtain⟨x,e,-⟩:=iE (f:=fun w:Int×air=>yJ s.bh (s.bh.length:Nat) w.1 w.2) (fun (n:Nat) (_:Unit)=>((n:Int),mi s.bh n)) s.bh.length (fun _ _=>True) (fun _=>mi s.bh s.bh.length)
  (fun n aX _ _=>by
    refine⟨(),?_,trivial⟩;have U:=dx aX;have aO:=FW s.bh n;have e1:mi s.bh (n+1)=mi s.bh n++vG n s.bh[n]:=(by rw[mi,U]);unfold yJ;refine eF (dn (aI (x:=s.bh[n]) (by simp only;rw[dy];exact U) ?_));simp only;rw[fy (by omega),e1];unfold vG;by_cases bl:s.bh[n].gy=2
    ·rw[dw bl];refine hI (xT bl) (fK (vM (by omega)) (cy (by simp only[dE,dI,dM];omega) ?_));rw[dA (by omega)];simp
    rw[dA bl];refine fK (vM bl) (cy (by simp only[dE,dI,dM];omega) ?_);by_cases b8:s.bh[n].gy=1
    ·refine hI (xT b8) ?_;rw[dw b8];simp
    refine fK (vM b8) (cy (by simp only[dE,dI,dM];omega) ?_);rw[dA b8];simp)
  (fun _ _=>by unfold yJ;exact fl rfl) () trivial
 exact aI e rfl
theorem Yt (s:cv)(er:s.bh.length<=1000):B1 s=some ((mi s.bh s.bh.length).map fe.nz,(mi s.bh s.bh.length).map fe.rs):=by
 unfold B1 Nw;rw[ff]
 obtain⟨x,e,-⟩:=iE (f:=fun w:Int×ar×ar=>y1 s.bh (s.bh.length:Nat) w.1 w.2.1 w.2.2) (fun (n:Nat) (_:Unit)=>((n:Int),(mi s.bh n).map fe.nz,(mi s.bh n).map fe.rs)) s.bh.length (fun _ _=>True) (fun _=>((mi s.bh s.bh.length).map fe.nz,(mi s.bh s.bh.length).map fe.rs))
  (fun n aX _ _=>by
    refine⟨(),?_,trivial⟩;have U:=dx aX;have aO:=FW s.bh n;have e1:mi s.bh (n+1)=mi s.bh n++vG n s.bh[n]:=(by rw[mi,U]);unfold y1;refine eF (dn (aI (x:=s.bh[n]) (by simp only;rw[dy];exact U) ?_));simp only;rw[fy (by omega),e1];unfold vG;by_cases bl:s.bh[n].gy=2
    ·rw[dw bl];refine hI (xT bl) (fK (vM (by omega)) (cy (by simp only[dE,ah8,dI,dM];omega) (cy (by simp only[dE,ah8,dI,dM];omega) ?_)));rw[dA (by omega)];simp
    rw[dA bl];refine fK (vM bl) (cy (by simp only[dE,ah8,dI,dM];omega) (cy (by simp only[dE,ah8,dI,dM];omega) ?_));by_cases b8:s.bh[n].gy=1
    ·refine hI (xT b8) ?_;rw[dw b8];simp
    refine fK (vM b8) (cy (by simp only[dE,ah8,dI,dM];omega) (cy (by simp only[dE,ah8,dI,dM];omega) ?_));rw[dA b8];simp)
  (fun _ _=>by unfold y1;exact fl rfl) () trivial
 exact aI e rfl
theorem ach {α:Type}(a b:Nat)(f:Nat->α):a2 (a+b) f=a2 a f++a2 b (fun j=>f (a+j)):=by
 induction b with
 | zero=>simp[a2]
 | succ b ih=>rw[<- Nat.add_assoc,lN,ih,lN,List.append_assoc]
def m4 (s:cv)(k:Nat):Int×Int:=(sH s k).getD (0,0)
theorem JC (s:cv)(h:oR s)(k:Nat)(aZ:k<s.bh.length):sH s k=some (m4 s k)/\(-100<=(m4 s k).1/\(m4 s k).1<=100)/\(-100<=(m4 s k).2/\(m4 s k).2<=100):=by
 obtain⟨x,y,h1,aa,ao⟩:=ab8 s h k (by omega) (by omega);have e:m4 s k=(x,y):=by unfold m4;rw[h1];rfl
 rw[e];exact⟨h1,aa,ao⟩
def i9 (s:cv)(j:Int)(jL k:Nat):Int :=
 match s.bh[k]? with
 | none=>0
 | some x=>if j=x.dq then (if jL=0 then (m4 s k).1 else (m4 s k).2) else if j=x.d4 then -(if jL=0 then (m4 s k).1 else (m4 s k).2) else 0
theorem acS (s:cv)(h:oR s)(j:Int)(jL k:Nat): -100<=i9 s j jL k/\i9 s j jL k<=100:=by
 unfold i9;split
 ·omega
 rename_i x U;obtain⟨-,aa,ao⟩:=JC s h k (gi U);split
 ·split<;>omega
 split
 ·split<;>omega
 omega
theorem aci (s:cv)(h:oR s)(j:Int)(q1:ar)(a0 bQ:Int)(cr:ar):
 Ip j q1 a0 bQ s.bh (len_ bB s.bh) s.bP cr 0 ([]:ar) ([]:ar)=some (a2 s.bh.length (i9 s j 0),a2 s.bh.length (i9 s j 1)):=by
 obtain⟨-,-,f3,f4⟩:=id h;unfold Ip;rw[ff]
 obtain⟨x,e,-⟩:=iE (f:=fun w:Int×ar×ar=>zo j q1 a0 bQ s.bh (s.bh.length:Nat) s.bP cr w.1 w.2.1 w.2.2) (fun (n:Nat) (_:Unit)=>((n:Int),a2 n (i9 s j 0),a2 n (i9 s j 1))) s.bh.length (fun _ _=>True) (fun _=>(a2 s.bh.length (i9 s j 0),a2 s.bh.length (i9 s j 1)))
  (fun n aX _ _=>by
    refine⟨(),?_,trivial⟩;have U:=dx aX;obtain⟨v1,v3,v4⟩:=JC s h n aX;have v2:=ab9 s h n (by omega) (by omega) v1;unfold zo;refine eF (dn (aI (x:=s.bh[n]) (by simp only;rw[dy];exact U) (aI (x:=m4 s n) v2 ?_)));simp only;rw[fy (by omega),lN,lN];have g : ∀(F:Nat->Int) (v:Int),(a2 n F++[v]).length*8<=140737488355328:=fun F v=>(by simp only[dE,dX,dI,dM];omega);by_cases bl:j=s.bh[n].dq
    ·have e0 : ∀jL,i9 s j jL n=if jL=0 then (m4 s n).1 else (m4 s n).2:=fun jL=>(by unfold i9;rw[U];simp only[dw bl]);refine fK (tg bl) (cy (g _ _) (cy (g _ _) ?_));rw[e0,e0];rfl
    refine hI (uw bl) ?_;by_cases b8:j=s.bh[n].d4
    ·have e0 : ∀jL,i9 s j jL n = -(if jL=0 then (m4 s n).1 else (m4 s n).2):=fun jL=>(by unfold i9;rw[U];simp only[dA bl,dw b8]);refine fK (tg b8) (cy (g _ _) (cy (g _ _) ?_));rw[e0,e0,ch (by omega) (by omega),ch (by omega) (by omega)];simp
    have e0 : ∀jL,i9 s j jL n=0:=fun jL=>(by unfold i9;rw[U];simp only[dA bl,dA b8]);refine hI (uw b8) (cy (g _ _) (cy (g _ _) ?_));rw[e0,e0])
  (fun _ _=>by unfold zo;exact fl rfl) () trivial
 exact e
theorem acj (s:cv)(h:oR s)(j:Int)(q1:ar)(a0 bQ:Int)(cr:ais):
 HC s.bP s.bh j q1 a0 bQ (len_ bB s.bh) cr 0 (a2 s.bh.length fun _=>(0:Int)) (a2 s.bh.length fun _=>(0:Int))=some (a2 s.bh.length (i9 s j 0),a2 s.bh.length (i9 s j 1)):=by
 obtain⟨-,-,f3,f4⟩:=id h;unfold HC;rw[ff]
 obtain⟨x,e,-⟩:=iE (f:=fun w:Int×ar×ar=>yD s.bP s.bh j q1 a0 bQ (s.bh.length:Nat) cr w.1 w.2.1 w.2.2) (fun (n:Nat) (_:Unit)=>((n:Int),(a2 s.bh.length fun k=>if k<n then i9 s j 0 k else 0),a2 s.bh.length fun k=>if k<n then i9 s j 1 k else 0)) s.bh.length (fun _ _=>True) (fun _=>(a2 s.bh.length (i9 s j 0),a2 s.bh.length (i9 s j 1)))
  (fun n aX _ _=>by
    refine⟨(),?_,trivial⟩;have U:=dx aX;obtain⟨v1,v3,v4⟩:=JC s h n aX
    have c3 : ∀jL v,v=i9 s j jL n->(a2 s.bh.length fun k=>if k<n then i9 s j jL k else 0).set n v=a2 s.bh.length fun k=>if k<n+1 then i9 s j jL k else 0:=fun jL v bb=>by
     rw[ly];refine eY fun k _=> ?_;by_cases c:k=n
     ·subst c;rw[dw rfl,dw (by omega)];exact bb
     rw[dA c];by_cases b8:k<n
     ·rw[dw b8,dw (by omega)]
     rw[dA b8,dA (by omega)]
    have g1 : ∀F:Nat->Int,0<=((n:Nat):Int)/\((n:Nat):Int)<((a2 s.bh.length F).length:Nat):=fun F=>(by rw[dX];omega);have g2 : ∀F:Nat->Int,0+((n:Nat):Int).toNat<(a2 s.bh.length F).length:=fun F=>(by rw[dX,dy];omega);unfold yD;refine eF (dn (aI (x:=s.bh[n]) (by simp only;rw[dy];exact U) (aI (x:=m4 s n) v1 ?_)));simp only;by_cases bl:j=s.bh[n].dq
    ·have e0 : ∀jL,i9 s j jL n=if jL=0 then (m4 s n).1 else (m4 s n).2:=fun jL=>(by unfold i9;rw[U];simp only[dw bl]);refine fK (tg bl) (cy (g1 _) (cy (g2 _) (cy (g1 _) (cy (g2 _) ?_))));rw[fy (by omega),dy,dF,c3 0 _ (by rw[e0];rfl),c3 1 _ (by rw[e0];rfl)]
    refine hI (uw bl) ?_;by_cases b8:j=s.bh[n].d4
    ·have e0 : ∀jL,i9 s j jL n = -(if jL=0 then (m4 s n).1 else (m4 s n).2):=fun jL=>(by unfold i9;rw[U];simp only[dA bl,dw b8]);refine fK (tg b8) (cy (g1 _) (cy (g2 _) (cy (g1 _) (cy (g2 _) ?_))));rw[fy (by omega),dy,dF,ch (by omega) (by omega),ch (by omega) (by omega),c3 0 _ (by rw[e0];simp),c3 1 _ (by rw[e0];simp)]
    have e0 : ∀jL,i9 s j jL n=0:=fun jL=>(by unfold i9;rw[U];simp only[dA bl,dA b8]);refine hI (uw b8) ?_;rw[fy (by omega)];congr 4
    ·refine eY fun k _=> ?_
     by_cases c:k=n
     ·subst c;rw[dA (by omega),dw (by omega),e0]
     by_cases b8:k<n
     ·rw[dw b8,dw (by omega)]
     rw[dA b8,dA (by omega)]
    refine eY fun k _=> ?_;by_cases c:k=n
    ·subst c;rw[dA (by omega),dw (by omega),e0]
    by_cases b8:k<n
    ·rw[dw b8,dw (by omega)]
    rw[dA b8,dA (by omega)])
  (fun _ _=>by
    unfold yD;refine fl ?_;simp only;congr 3
    ·exact eY fun k aZ=>by rw[dw aZ]
    exact eY fun k aZ=>by rw[dw aZ]) () trivial
 have z : ∀jL,(a2 s.bh.length fun k=>if k<0 then i9 s j jL k else 0)=a2 s.bh.length fun _=>(0:Int):=fun jL=>eY fun k _=>by rw[dA (by omega)]
 rw[z,z] at e;exact e
def h6 (s:cv)(q:Nat):Nat:=(lj s.bP 0).getD q 0
def eX (s:cv):Nat:=(lj s.bP 0).length
def kW (s:cv)(r k:Nat):Int:=i9 s (h6 s (r / 2)) (r % 2) k
theorem CW (s:cv):(lj s.bP 0).map (fun n:Nat=>(n:Int))=a2 (eX s) fun q=>((h6 s q:Nat):Int):=by
 apply ah7;intro q;rw[dK];by_cases c:q<eX s
 ·rw[gN c];have h:(lj s.bP 0)[q]? = some (lj s.bP 0)[q]:=dx c;unfold h6;rw[ahX,h];rfl
 rw[List.getElem?_eq_none_iff.2 (by unfold eX at c;omega),List.getElem?_eq_none_iff.2 (by rw[dX];omega)];rfl
theorem Sf (s:cv){q:Nat}(h:q<eX s):h6 s q<s.bP.length:=by
 have h1:(lj s.bP 0)[q]? = some (lj s.bP 0)[q]:=dx h;have o:h6 s q=(lj s.bP 0)[q]:=by unfold h6;rw[ahX,h1];rfl
 have:=Jz s.bP 0 _ (dH h1);omega
theorem AU (s:cv):eX s<=s.bP.length:=Q8 s.bP 0
theorem JO {α:Type}(r n:Nat)(e:Nat->Nat->α):(a2 (r*n) fun x=>e (x / n) (x % n))++a2 n (e r)=a2 ((r+1)*n) fun x=>e (x / n) (x % n):=by
 rw[Nat.succ_mul,ach];congr 1;refine eY fun j au=> ?_;have h1:(r*n+j) / n=r:=by rw[Nat.mul_comm,Nat.mul_add_div (by omega),Nat.div_eq_of_lt au];rfl
 have o:(r*n+j) % n=j:=by rw[Nat.mul_comm,Nat.mul_add_mod,Nat.mod_eq_of_lt au]
 rw[h1,o]
theorem ZX (s:cv)(h:oR s):Cv s=some (a2 (2*eX s*s.bh.length) fun x=>kW s (x / s.bh.length) (x % s.bh.length)):=by
 obtain⟨-,-,f3,f4⟩:=id h;have vZ:=AU s;unfold Cv;refine aI (I7 s (by omega)) ?_;rw[CW,gj,dX];unfold Ow
 obtain⟨x,e,-⟩:=iE (f:=fun w:Int×ar=>zp (a2 (eX s) fun q=>((h6 s q:Nat):Int)) ((eX s:Nat):Int) s.bP s.bh w.1 w.2) (fun (n:Nat) (_:Unit)=>((n:Int),a2 (2*n*s.bh.length) fun x=>kW s (x / s.bh.length) (x % s.bh.length))) (eX s) (fun _ _=>True) (fun _=>a2 (2*eX s*s.bh.length) fun x=>kW s (x / s.bh.length) (x % s.bh.length))
  (fun n aX _ _=>by refine⟨(),?_,trivial⟩;have aL:2*n*s.bh.length<=12*8:=Nat.mul_le_mul (by omega) f4;unfold zp;refine eF (dn (aI (x:=((h6 s n:Nat):Int)) (by simp only;rw[dy];exact gN aX) (aI (aci s h _ _ _ _ _) ?_)));refine cy (by simp only[dE,dX];omega) (cy (by simp only[dE,dX];omega) ?_);simp only;rw[fy (by omega)];have r1:a2 s.bh.length (i9 s (h6 s n) 0)=a2 s.bh.length (kW s (2*n)):=eY fun k _=>(by unfold kW;rw[show 2*n / 2=n by omega,show 2*n % 2=0 by omega]);have bM:a2 s.bh.length (i9 s (h6 s n) 1)=a2 s.bh.length (kW s (2*n+1)):=eY fun k _=>(by unfold kW;rw[show (2*n+1) / 2=n by omega,show (2*n+1) % 2=1 by omega]);rw[r1,bM,JO (2*n),JO (2*n+1),show 2*n+1+1=2*(n+1) by omega])
  (fun _ _=>by unfold zp;exact fl rfl) () trivial
 have z:(a2 (2*0*s.bh.length) fun x=>kW s (x / s.bh.length) (x % s.bh.length))=[]:=by simp[a2]
 rw[z] at e;exact aI e rfl
theorem Yb (s:cv)(h:oR s):BE s=some (a2 (2*eX s) fun r=>a2 s.bh.length (kW s r)):=by
 obtain⟨-,-,f3,f4⟩:=id h;have vZ:=AU s;unfold BE;refine aI (Pk s (by omega)) ?_;rw[CW,gj,dX];unfold Mg
 obtain⟨x,e,-⟩:=iE (f:=fun w:Int×ais=>yE s.bP s.bh (a2 (eX s) fun q=>((h6 s q:Nat):Int)) ((eX s:Nat):Int) w.1 w.2) (fun (n:Nat) (_:Unit)=>((n:Int),a2 (2*n) fun r=>a2 s.bh.length (kW s r))) (eX s) (fun _ _=>True) (fun _=>a2 (2*eX s) fun r=>a2 s.bh.length (kW s r))
  (fun n aX _ _=>by refine⟨(),?_,trivial⟩;unfold yE;refine eF (dn (aI (x:=((h6 s n:Nat):Int)) (by simp only;rw[dy];exact gN aX) (cy (by rw[ff];omega) ?_)));refine aI (x:=(a2 s.bh.length (i9 s (h6 s n) 0),a2 s.bh.length (i9 s (h6 s n) 1))) (by rw[show (len_ bB s.bh).toNat=s.bh.length by rw[ff,dy],r4];exact acj s h _ _ _ _ _) (cy (by simp only[dE,dX,dI,dM];omega) ?_);simp only;rw[fy (by omega),show 2*(n+1)=2*n+1+1 by omega,lN (2*n+1),lN (2*n)];have r1:a2 s.bh.length (i9 s (h6 s n) 0)=a2 s.bh.length (kW s (2*n)):=eY fun k _=>(by unfold kW;rw[show 2*n / 2=n by omega,show 2*n % 2=0 by omega]);have bM:a2 s.bh.length (i9 s (h6 s n) 1)=a2 s.bh.length (kW s (2*n+1)):=eY fun k _=>(by unfold kW;rw[show (2*n+1) / 2=n by omega,show (2*n+1) % 2=1 by omega]);rw[r1,bM];simp)
  (fun _ _=>by unfold yE;exact fl rfl) () trivial
 exact aI e rfl
def gK (s:cv):air:=mi s.bh s.bh.length
def dg (s:cv):Nat:=(gK s).length
def nv (s:cv)(c:Nat):Nat:=((gK s).getD c ⟨0,0⟩).nz.toNat
def q8 (s:cv)(c:Nat):Int:=((gK s).getD c ⟨0,0⟩).rs
def l8 (s:cv)(i c:Nat):Int:=q8 s c*kW s i (nv s c)
def ov (s:cv)(l:ar)(i:Nat):Int:= -(l.getD (2*h6 s (i / 2)+i % 2) 0)
theorem Dj (s:cv){c:Nat}(a8:c<dg s):(gK s)[c]? = some ⟨(nv s c:Int),q8 s c⟩/\nv s c<s.bh.length/\(q8 s c=1\/q8 s c = -1):=by
 have h1:(gK s)[c]? = some (gK s)[c]:=dx a8;have o:(gK s).getD c ⟨0,0⟩=(gK s)[c]:=by rw[ahX,h1];rfl
 obtain⟨k,e1,aD,bH⟩:=Rc (dG _) (dH h1);have cX:nv s c=k:=by unfold nv;rw[o,e1];rfl
 have di:q8 s c=((gK s)[c]).rs:=by unfold q8;rw[o]
 refine⟨?_,by omega,by rw[di];exact bH⟩;rw[h1,cX,di,<- e1]
theorem Ki (s:cv):dg s<=2*s.bh.length:=FW _ _
theorem ack (s:cv):(gK s).map fe.nz=a2 (dg s) fun c=>((nv s c:Nat):Int):=by
 apply ah7;intro c;rw[dK];by_cases h:c<dg s
 ·rw[(Dj s h).1,gN h];rfl
 rw[List.getElem?_eq_none_iff.2 (by unfold dg at h;omega),List.getElem?_eq_none_iff.2 (by rw[dX];omega)];rfl
theorem acm (s:cv):(gK s).map fe.rs=a2 (dg s) (q8 s):=by
 apply ah7;intro c;rw[dK];by_cases h:c<dg s
 ·rw[(Dj s h).1,gN h];rfl
 rw[List.getElem?_eq_none_iff.2 (by unfold dg at h;omega),List.getElem?_eq_none_iff.2 (by rw[dX];omega)];rfl
theorem Kj (s:cv)(h:oR s)(i:Nat){c:Nat}(a8:c<dg s): -100<=l8 s i c/\l8 s i c<=100:=by have h1:=acS s h (h6 s (i / 2)) (i % 2) (nv s c);unfold l8 kW;rcases(Dj s a8).2.2 with e|e<;>rw[e]<;>omega
theorem abL (s:cv)(h:oR s)(l:ar)(aO:l.length=2*s.bP.length)(aL:∀x∈l,-100<=x/\x<=100):Ce s l=some (a2 (2*eX s) (ov s l)):=by
 obtain⟨-,-,f3,f4⟩:=id h;have vZ:=AU s;unfold Ce;refine aI (I7 s (by omega)) ?_;rw[CW,gj,dX];unfold N6
 obtain⟨x,e,-⟩:=iE (f:=fun w:Int×ar=>zf l (a2 (eX s) fun q=>((h6 s q:Nat):Int)) ((eX s:Nat):Int) w.1 w.2) (fun (n:Nat) (_:Unit)=>((n:Int),a2 (2*n) (ov s l))) (eX s) (fun _ _=>True) (fun _=>a2 (2*eX s) (ov s l))
  (fun n aX _ _=>by refine⟨(),?_,trivial⟩;have b5:=Sf s aX;have oV:R ((2:Int)*((h6 s n:Nat):Int))=((2*h6 s n:Nat):Int):=(by rw[ch (by omega) (by omega)];omega);have rR:R (((2*h6 s n:Nat):Int)+1)=((2*h6 s n+1:Nat):Int):=fy (by omega);have x1:=aL l[2*h6 s n] (List.getElem_mem (by omega));have ej:=aL l[2*h6 s n+1] (List.getElem_mem (by omega));have p1:ov s l (2*n) = -l[2*h6 s n]:=(by unfold ov;rw[show 2*n / 2=n by omega,show 2*n % 2=0 by omega,Nat.add_zero,ahX,dx (by omega)];rfl);have hX:ov s l (2*n+1) = -l[2*h6 s n+1]:=(by unfold ov;rw[show (2*n+1) / 2=n by omega,show (2*n+1) % 2=1 by omega,ahX,dx (by omega)];rfl);unfold zf;refine eF (dn (aI (x:=((h6 s n:Nat):Int)) (by simp only;rw[dy];exact gN aX) ?_));rw[oV,rR];refine dn (aI (x:=l[2*h6 s n]) (by rw[dy];exact dx (by omega)) (dn (aI (x:=l[2*h6 s n+1]) (by rw[dy];exact dx (by omega)) (cy (by simp only[dE,dX,dI,dM];omega) ?_))));simp only;rw[fy (by omega),ch (by omega) (by omega),ch (by omega) (by omega),show 2*(n+1)=2*n+1+1 by omega,lN (2*n+1),lN (2*n),p1,hX];simp)
  (fun _ _=>by unfold zf;exact fl rfl) () trivial
 exact aI e rfl
def wa (s:cv)(l:ar):j6:=⟨((2*eX s:Nat):Int),(dg s:Int),a2 (2*eX s*dg s) (fun x=>l8 s (x / dg s) (x % dg s)),a2 (2*eX s) (ov s l),a2 (dg s) fun _=>0⟩
theorem acT (s:cv)(h:oR s)(l:ar)(aL:∀x∈l,-100<=x/\x<=100):nb (wa s l) (2*eX s) (dg s) (l8 s) (ov s l) where
 rows:=rfl
 gK:=rfl
 gM:=dX ..
 DX:=fun i ab j au=>by have h1:i*dg s+j<2*eX s*dg s:=(by have:(i+1)*dg s<=2*eX s*dg s:=ahY _ ab;rw[Nat.succ_mul] at this;omega);show (a2 _ _)[_]? = _;rw[gN h1];have o:(i*dg s+j) / dg s=i:=(by rw[Nat.mul_comm,Nat.mul_add_div (by omega),Nat.div_eq_of_lt au];rfl);have aa:(i*dg s+j) % dg s=j:=(by rw[Nat.mul_comm,Nat.mul_add_mod,Nat.mod_eq_of_lt au]);rw[o,aa]
 yt:=dX ..
 GG:=fun i ab=>gN ab
 hm:=by obtain⟨-,-,f3,f4⟩:=id h;have:=AU s;omega
 aX:=by obtain⟨-,-,f3,f4⟩:=id h;have:=Ki s;omega
 uS:=fun i _ j au=>Kj s h i au
 ys:=fun i _=>by
  unfold ov;rw[ahX]
  cases c:l[2*h6 s (i / 2)+i % 2]? with
  | none=>simp
  | some x =>
   have:=aL x (dH c);simp only[Option.getD_some];omega
theorem Yu (s:cv)(h:oR s)(l:ar)(aO:l.length=2*s.bP.length)(aL:∀x∈l,-100<=x/\x<=100):wI s l=some (wa s l):=by
 obtain⟨-,-,f3,f4⟩:=id h;have vZ:=AU s;have yv:=Ki s;unfold wI;refine aI (Yt s (by omega)) (aI (ZX s h) (aI (I7 s (by omega)) (aI (abL s h l aO aL) ?_)));show (if 0<=len_ eI ((gK s).map fe.nz)/\_ then _ else none)=_;rw[CW]
 show (if 0<=len_ eI ((gK s).map fe.nz)/\(8:Int)*len_ eI ((gK s).map fe.nz)<=281474976710656/\len_ eI ((gK s).map fe.nz)<9223372036854775808 then
  H5 ((gK s).map fe.nz) ((gK s).map fe.rs) (len_ bB s.bh) _ (R ((2:Int)*len_ eI (a2 (eX s) fun q=>((h6 s q:Nat):Int)))) (len_ eI ((gK s).map fe.nz)) (a2 (2*eX s) (ov s l)) (List.replicate (len_ eI ((gK s).map fe.nz)).toNat 0) 0 [] >>= fun ex=>some (⟨R ((2:Int)*len_ eI (a2 (eX s) fun q=>((h6 s q:Nat):Int))),len_ eI ((gK s).map fe.nz),ex,a2 (2*eX s) (ov s l),List.replicate (len_ eI ((gK s).map fe.nz)).toNat 0⟩:j6) else none)=_
 rw[ack,acm,gj,dX,gj,dX,dy,ff,show R ((2:Int)*(eX s:Nat))=((2*eX s:Nat):Int) by rw[ch (by omega) (by omega)];omega,r4];refine dn (aI (x:=a2 (2*eX s*dg s) (fun x=>l8 s (x / dg s) (x % dg s))) ?_ rfl);unfold H5
 obtain⟨x,e,-⟩:=iE (f:=fun w:Int×ar=>y3 (a2 (dg s) fun c=>((nv s c:Nat):Int)) (a2 (dg s) (q8 s)) (s.bh.length:Nat) (a2 (2*eX s*s.bh.length) fun x=>kW s (x / s.bh.length) (x % s.bh.length)) ((2*eX s:Nat):Int) ((dg s:Nat):Int) (a2 (2*eX s) (ov s l)) (a2 (dg s) fun _=>0) w.1 w.2) (fun (i:Nat) (_:Unit)=>((i:Int),a2 (i*dg s) (fun x=>l8 s (x / dg s) (x % dg s)))) (2*eX s) (fun _ _=>True) (fun _=>a2 (2*eX s*dg s) (fun x=>l8 s (x / dg s) (x % dg s)))
  (fun i ab _ _=>by
    refine⟨(),?_,trivial⟩;have TD:i*dg s<=12*16:=Nat.mul_le_mul (by omega) (by omega);have mG:i*s.bh.length<=12*8:=Nat.mul_le_mul (by omega) f4
    obtain⟨y,aD,-⟩:=iE (f:=fun w:Int×ar=>y2 (a2 (dg s) fun c=>((nv s c:Nat):Int)) (a2 (dg s) (q8 s)) (s.bh.length:Nat) (a2 (2*eX s*s.bh.length) fun x=>kW s (x / s.bh.length) (x % s.bh.length)) (i:Int) ((dg s:Nat):Int) ((2*eX s:Nat):Int) ((dg s:Nat):Int) (a2 (2*eX s) (ov s l)) (a2 (dg s) fun _=>0) w.1 w.2)
     (fun (c:Nat) (_:Unit)=>((c:Int),(a2 (i*dg s) fun x=>l8 s (x / dg s) (x % dg s))++a2 c (l8 s i))) (dg s) (fun _ _=>True) (fun _=>(a2 (i*dg s) fun x=>l8 s (x / dg s) (x % dg s))++a2 (dg s) (l8 s i))
     (fun c a8 _ _=>by refine⟨(),?_,trivial⟩;obtain⟨-,i4,l4⟩:=Dj s a8;have qm:(i+1)*s.bh.length<=2*eX s*s.bh.length:=ahY _ ab;rw[Nat.succ_mul] at qm;have j5:R (R ((i:Int)*((s.bh.length:Nat):Int))+((nv s c:Nat):Int))=((i*s.bh.length+nv s c:Nat):Int):=(by rw[<- Int.natCast_mul,ch (x:=((i*s.bh.length:Nat):Int)) (by omega) (by omega),ch (by omega) (by omega)];omega);have o:(i*s.bh.length+nv s c) / s.bh.length=i:=(by rw[Nat.mul_comm,Nat.mul_add_div (by omega),Nat.div_eq_of_lt i4];rfl);have aa:(i*s.bh.length+nv s c) % s.bh.length=nv s c:=(by rw[Nat.mul_comm,Nat.mul_add_mod,Nat.mod_eq_of_lt i4]);have afh:=Kj s h i a8;unfold y2;refine eF (dn (aI (x:=((nv s c:Nat):Int)) (by simp only;rw[dy];exact gN a8) (dn (aI (x:=q8 s c) (by simp only;rw[dy];exact gN a8) ?_))));rw[j5];refine dn (aI (x:=kW s i (nv s c)) (by rw[dy,gN (by omega),o,aa]) (cy (by simp only[dE,dX,dI,dM];omega) ?_));simp only;rw[fy (by omega),lN,show q8 s c*kW s i (nv s c)=l8 s i c from rfl,ch (by omega) (by omega),List.append_assoc])
     (fun _ _=>by unfold y2;exact fl rfl) () trivial
    have z:(a2 (i*dg s) fun x=>l8 s (x / dg s) (x % dg s))++a2 0 (l8 s i)=a2 (i*dg s) fun x=>l8 s (x / dg s) (x % dg s):=(by simp[a2]);rw[z] at aD;unfold y3;refine eF (aI (x:=(a2 (i*dg s) fun x=>l8 s (x / dg s) (x % dg s))++a2 (dg s) (l8 s i)) (by unfold Ny;rw[gj,dX];exact aD) ?_);simp only;rw[fy (by omega),JO])
  (fun _ _=>by unfold y3;exact fl rfl) () trivial
 have z:(a2 (0*dg s) fun x=>l8 s (x / dg s) (x % dg s))=[]:=by simp[a2]
 rw[z] at e;exact e
def wb (s:cv)(r c:Nat):Int:=if r<2*eX s/\c<dg s then l8 s r c else 0
def oX (s:cv)(l:ar)(r:Nat):Int:=if r<2*eX s then ov s l r else 0
def qq (s:cv)(N i c x:Nat):Int:=if (x / N<i\/(x / N=i/\x % N<c))/\x % N<dg s then l8 s (x / N) (x % N) else 0
theorem acU (s:cv){T N i c:Nat}(a8:c<dg s)(fV:dg s<=N)(hN:i*N+c<T){v:Int}(bb:v=l8 s i c):(a2 T (qq s N i c)).set (i*N+c) v=a2 T (qq s N i (c+1)):=by
 have o:(i*N+c) / N=i:=by rw[Nat.mul_comm,Nat.mul_add_div (by omega),Nat.div_eq_of_lt (by omega)];rfl
 have aa:(i*N+c) % N=c:=by rw[Nat.mul_comm,Nat.mul_add_mod,Nat.mod_eq_of_lt (by omega)]
 rw[ly];refine eY fun x _=> ?_;unfold qq;by_cases e:x=i*N+c
 ·rw[dw e,e,o,aa,dw ⟨.inr ⟨rfl,by omega⟩,a8⟩,bb]
 rw[dA e];have cU : ¬(x / N=i/\x % N=c):=fun ⟨a,b⟩=>e (by rw[<- Nat.div_add_mod x N,a,b,Nat.mul_comm]);by_cases d:(x / N<i\/(x / N=i/\x % N<c))/\x % N<dg s
 ·rw[dw d,dw ⟨by omega,d.2⟩]
 rw[dA d,dA (fun yr=>d ⟨by omega,yr.2⟩)]
theorem acV (s:cv)(T N i:Nat):a2 T (qq s N i (dg s))=a2 T (qq s N (i+1) 0):=by
 refine eY fun x _=> ?_;unfold qq;by_cases d:(x / N<i\/(x / N=i/\x % N<dg s))/\x % N<dg s
 ·rw[dw d,dw ⟨by omega,d.2⟩]
 rw[dA d,dA (fun yr=>d ⟨by omega,yr.2⟩)]
theorem acn (s:cv)(T N:Nat):a2 T (qq s N 0 0)=a2 T fun _=>0:=eY fun x _=>by unfold qq;rw[dA (fun h=>by rcases h.1 with h|h;exact Nat.not_lt_zero _ h;exact Nat.not_lt_zero _ h.2)]
theorem acW (s:cv)(T N:Nat):a2 T (qq s N (2*eX s) 0)=a2 T fun x=>wb s (x / N) (x % N):=eY fun x _=>by
 unfold qq wb;by_cases d:x / N<2*eX s/\x % N<dg s
 ·rw[dw d,dw ⟨.inl d.1,d.2⟩]
 rw[dA d,dA (fun yr=>d ⟨by omega,yr.2⟩)]
theorem aco (s:cv)(l:ar)(M:Nat):(a2 M fun x=>if x<0 then oX s l x else 0)=a2 M fun _=>0:=eY fun j _=>by rw[dA (by omega)]
theorem acX (s:cv)(l:ar)(M:Nat):(a2 M fun x=>if x<2*eX s then oX s l x else 0)=a2 M (oX s l):=eY fun j _=>by
 by_cases c:j<2*eX s
 ·rw[dw c]
 rw[dA c];unfold oX;rw[dA c]
theorem aaL (s:cv)(h:oR s)(l:ar)(aO:l.length=2*s.bP.length)(aL:∀x∈l,-100<=x/\x<=100)(eo k3:Nat)(ahJ:eo<=100)(ahK:k3<=100):
 yK s l (eo:Int) (k3:Int)=some (((2*eX s+k3:Nat):Int),((dg s+eo:Nat):Int),a2 ((2*eX s+k3)*(dg s+eo)) (fun x=>wb s (x / (dg s+eo)) (x % (dg s+eo))),a2 (2*eX s+k3) (oX s l),a2 (dg s+eo) fun _=>0):=by
 obtain⟨-,-,f3,f4⟩:=id h;have vZ:=AU s;have yv:=Ki s;have ahL:(2*eX s+k3)*(dg s+eo)<=112*116:=Nat.mul_le_mul (by omega) (by omega);unfold yK;refine aI (Yb s h) (aI (x:=gK s) (ZW s (by omega)) ?_);have j5:R ((len_ (eH 1 eI) (a2 (2*eX s) fun r=>a2 s.bh.length (kW s r)))+(k3:Int))=((2*eX s+k3:Nat):Int):=by rw[ff,dX,ch (by omega) (by omega)];omega
 have oV:R ((len_ gT (gK s))+(eo:Int))=((dg s+eo:Nat):Int):=by rw[ff];show R (((dg s:Nat):Int)+(eo:Int))=_;rw[ch (by omega) (by omega)];omega
 have rR:R (((2*eX s+k3:Nat):Int)*((dg s+eo:Nat):Int))=(((2*eX s+k3)*(dg s+eo):Nat):Int):=by rw[<- Int.natCast_mul,ch (by omega) (by omega)]
 rw[j5,oV,rR,dy,dy,dy,r4,r4,r4,ff,dX];refine dn (dn (dn ?_));refine aI (x:=a2 ((2*eX s+k3)*(dg s+eo)) (fun x=>wb s (x / (dg s+eo)) (x % (dg s+eo)))) ?_ ?_
 ·unfold Mb
  obtain⟨x,e,-⟩:=iE (f:=fun w:Int×ar=>yz s.bP s.bh l (gK s) (a2 (2*eX s) fun r=>a2 s.bh.length (kW s r)) ((2*eX s:Nat):Int) ((2*eX s+k3:Nat):Int) ((dg s+eo:Nat):Int) (a2 (2*eX s+k3) fun _=>0) (a2 (dg s+eo) fun _=>0) w.1 w.2) (fun (i:Nat) (_:Unit)=>((i:Int),a2 ((2*eX s+k3)*(dg s+eo)) (qq s (dg s+eo) i 0))) (2*eX s) (fun _ _=>True) (fun _=>a2 ((2*eX s+k3)*(dg s+eo)) (fun x=>wb s (x / (dg s+eo)) (x % (dg s+eo))))
   (fun i ab _ _=>by
     refine⟨(),?_,trivial⟩;have Ej:(i+1)*(dg s+eo)<=(2*eX s+k3)*(dg s+eo):=ahY _ (by omega);rw[Nat.succ_mul] at Ej
     obtain⟨y,aD,-⟩:=iE (f:=fun w:Int×ar=>yy s.bP s.bh l (gK s) (i:Int) (a2 s.bh.length (kW s i)) (a2 (2*eX s) fun r=>a2 s.bh.length (kW s r)) ((2*eX s:Nat):Int) ((dg s:Nat):Int) ((2*eX s+k3:Nat):Int) ((dg s+eo:Nat):Int) (a2 (2*eX s+k3) fun _=>0) (a2 (dg s+eo) fun _=>0) w.1 w.2) (fun (c:Nat) (_:Unit)=>((c:Int),a2 ((2*eX s+k3)*(dg s+eo)) (qq s (dg s+eo) i c))) (dg s) (fun _ _=>True) (fun _=>a2 ((2*eX s+k3)*(dg s+eo)) (qq s (dg s+eo) i (dg s)))
      (fun c a8 _ _=>by refine⟨(),?_,trivial⟩;obtain⟨kX,i4,l4⟩:=Dj s a8;have afh:=Kj s h i a8;have afQ:R (R ((i:Int)*((dg s+eo:Nat):Int))+((c:Nat):Int))=((i*(dg s+eo)+c:Nat):Int):=(by rw[<- Int.natCast_mul,ch (x:=((i*(dg s+eo):Nat):Int)) (by omega) (by omega),ch (by omega) (by omega)];omega);unfold yy;refine eF (cy (by show _/\((c:Nat):Int)<((dg s:Nat):Int);simp only;omega) (aI (x:=⟨(nv s c:Int),q8 s c⟩) (by simp only;rw[dy];exact kX) (dn (aI (x:=kW s i (nv s c)) (by simp only;rw[dy];exact gN i4) ?_))));simp only;rw[afQ];refine dn (dn ?_);rw[fy (by omega),dy,dF,show q8 s c*kW s i (nv s c)=l8 s i c from rfl,ch (by omega) (by omega),acU s a8 (by omega) (by omega) rfl])
      (fun _ _=>by unfold yy;exact fl rfl) () trivial
     unfold yz;refine eF (dn (aI (x:=a2 s.bh.length (kW s i)) (by simp only;rw[dy];exact gN ab) (aI (x:=a2 ((2*eX s+k3)*(dg s+eo)) (qq s (dg s+eo) i (dg s))) (by unfold Ma;rw[ff];exact aD) ?_)));simp only;rw[fy (by omega),acV])
   (fun _ _=>by unfold yz;refine fl ?_;simp only;rw[acW]) () trivial
  rw[acn] at e;exact e
 refine aI (Pk s (by omega)) ?_;rw[CW,gj,dX];refine aI (x:=a2 (2*eX s+k3) (oX s l)) ?_ rfl;unfold Mc
 obtain⟨x,e,-⟩:=iE (f:=fun w:Int×ar=>yA l (a2 (eX s) fun q=>((h6 s q:Nat):Int)) ((eX s:Nat):Int) ((2*eX s+k3:Nat):Int) ((dg s+eo:Nat):Int) (a2 ((2*eX s+k3)*(dg s+eo)) (fun x=>wb s (x / (dg s+eo)) (x % (dg s+eo)))) (a2 (dg s+eo) fun _=>0) w.1 w.2) (fun (n:Nat) (_:Unit)=>((n:Int),a2 (2*eX s+k3) fun x=>if x<2*n then oX s l x else 0)) (eX s) (fun _ _=>True) (fun _=>a2 (2*eX s+k3) (oX s l))
  (fun n aX _ _=>by
    refine⟨(),?_,trivial⟩;have b5:=Sf s aX;have oV : ∀a:Nat,a<=1000->R ((2:Int)*((a:Nat):Int))=((2*a:Nat):Int):=fun a bC=>(by rw[ch (by omega) (by omega)];omega);have x1:=aL l[2*h6 s n] (List.getElem_mem (by omega));have ej:=aL l[2*h6 s n+1] (List.getElem_mem (by omega));have p1:oX s l (2*n) = -l[2*h6 s n]:=(by unfold oX ov;rw[dw (by omega),show 2*n / 2=n by omega,show 2*n % 2=0 by omega,Nat.add_zero,ahX,dx (by omega)];rfl);have hX:oX s l (2*n+1) = -l[2*h6 s n+1]:=by unfold oX ov;rw[dw (by omega),show (2*n+1) / 2=n by omega,show (2*n+1) % 2=1 by omega,ahX,dx (by omega)];rfl
    have c3 : ∀k v,v=oX s l k->(a2 (2*eX s+k3) fun x=>if x<k then oX s l x else 0).set k v=a2 (2*eX s+k3) fun x=>if x<k+1 then oX s l x else 0:=fun k v bb=>by
     rw[ly];refine eY fun j _=> ?_;by_cases c:j=k
     ·subst c;rw[dw rfl,dw (by omega)];exact bb
     rw[dA c];by_cases b8:j<k
     ·rw[dw b8,dw (by omega)]
     rw[dA b8,dA (by omega)]
    unfold yA;refine eF (dn (aI (x:=((h6 s n:Nat):Int)) (by simp only;rw[dy];exact gN aX) ?_));simp only;rw[oV (h6 s n) (by omega),oV n (by omega),fy (n:=2*h6 s n) (by omega),fy (n:=2*n) (by omega)];refine dn (aI (x:=l[2*h6 s n]) (by rw[dy];exact dx (by omega)) (dn (aI (x:=l[2*h6 s n+1]) (by rw[dy];exact dx (by omega)) ?_)));refine dn (dn (dn (cy (by rw[List.length_set,dX,dy];omega) ?_)));rw[fy (by omega),ch (x:=0-l[2*h6 s n]) (by omega) (by omega),ch (x:=0-l[2*h6 s n+1]) (by omega) (by omega),dy,dy,dF,dF,c3 _ _ (by rw[p1];omega),c3 _ _ (by rw[hX];omega),show 2*(n+1)=2*n+1+1 by omega])
  (fun _ _=>by unfold yA;refine fl ?_;simp only;rw[acX]) () trivial
 rw[Nat.mul_zero,aco] at e;exact e
theorem aaM (s:cv)(h:oR s)(l:ar)(aO:l.length=2*s.bP.length)(aL:∀x∈l,-100<=x/\x<=100):
 yK s l 0 0=some ((wa s l).ix,(wa s l).gz,(wa s l).dq,(wa s l).d4,(wa s l).jb):=by
 have e:=aaL s h l aO aL 0 0 (by omega) (by omega);rw[show ((0:Nat):Int)=0 from rfl] at e
 have hA:a2 (2*eX s*dg s) (fun x=>wb s (x / dg s) (x % dg s))=a2 (2*eX s*dg s) (fun x=>l8 s (x / dg s) (x % dg s)):=eY fun x U=>by
  have yv:0<dg s:=by
   rcases Nat.eq_zero_or_pos (dg s) with c|c
   ·rw[c,Nat.mul_zero] at U;omega
   exact c
  unfold wb;rw[dw ⟨Nat.div_lt_of_lt_mul (by rw[Nat.mul_comm];exact U),Nat.mod_lt _ yv⟩]
 have gP:a2 (2*eX s) (oX s l)=a2 (2*eX s) (ov s l):=eY fun x U=>by unfold oX;rw[dw U]
 rw[e];simp only[Nat.add_zero,wa];rw[hA,gP]
theorem YS (s:cv)(i0:mv s)(h:nZ s=some true)(l:ar)(aO:l.length=2*s.bP.length)(aL:∀x∈l,-100<=x/\x<=100):
 ∃r,(wI s l >>= fun p=>wG p)=some r/\uT s l=some r:=by
 have bb:=XS s i0 h;have ae:=acT s bb l aL;obtain⟨r,e1,aD⟩:=Ya ae (dX ..) (fun x U=>by obtain⟨i,-,rfl⟩:=JJ.1 U;omega);obtain⟨q,q1,a0⟩:=abJ ae;refine⟨r,aI (Yu s bb l aO aL) e1,?_⟩;unfold uT;refine aI (aaM s bb l aO aL) (aI q1 ?_);rcases a0 with ⟨bX,t,bi,g,ft,rfl,-⟩|⟨bX,rfl⟩
 ·rw[aD.2 bX]
 have:r=false:=by
  cases r
  ·rfl
  exact(bX (aD.1 rfl)).elim
 rw[this]
theorem Yc (hz:ail)(n:Int)(ee afi:aik):tB hz n afi 0=tB hz n ee 0:=by unfold tB;congr 1
theorem XT (s:cv)(i0:mv s)(h:nZ s=some true)(ee:aik)(bX:∀m∈ee,m∈s.bh)(aO:ee.length<=s.bh.length):nZ ⟨s.bP,ee⟩=some true:=by
 obtain⟨-,f2,f3,f4⟩:=wF s i0 h;obtain⟨r,ai⟩:=Ie s i0;have d1:decide ((6:Int)<len_ bw s.bP)=false:=by rw[ff];exact decide_eq_false (by omega)
 have d2:decide ((8:Int)<len_ bB s.bh)=false:=by rw[ff];exact decide_eq_false (by omega)
 have vV:decide ((8:Int)<len_ bB ee)=false:=by rw[ff];exact decide_eq_false (by omega)
 have uD:r = .inl ():=by
  cases r with
  | inl a=>rfl
  | inr a =>
   unfold nZ at h;rw[d1,d2,ai] at h;simp at h
 subst uD;have ry : ∀m∈ee,qC s.bP m=true:=fun m hm=>by obtain⟨n,aX⟩:=aia (bX m hm);exact f2 n m aX
 have a1:yF ee s.bP ee (len_ bB ee) 0=some (.inl ()):=by
  unfold yF;rw[ff]
  obtain⟨x,e,-⟩:=iE (f:=fun w:Int=>oY ee s.bP ee (ee.length:Nat) w) (fun (i:Nat) (_:Unit)=>(i:Int)) ee.length (fun _ _=>True) (fun _=>(Sum.inl ():Unit⊕Int))
   (fun i ab _ _=>by
     refine⟨(),?_,trivial⟩;have U:=dx ab;have aL:=ry ee[i] (List.getElem_mem ab);unfold oY wB;refine eF (dn (aI (x:=ee[i]) (by rw[dy];exact U) (aI (x:=false) (aI (FA _ _) (by simp[aL])) (hI rfl (by rw[fy (by omega)])))))
     )
   (fun _ _=>by unfold oY;exact fl rfl) () trivial
  exact e
 have Ly:HZ (R (len_ bw s.bP-1)) ee (len_ bB ee) s.bP 0=some (Sum.map id (fun _=>()) (Sum.inl ():Unit⊕Int)) :=
  QT (f:=fun w=>oY ee s.bP ee (len_ bB ee) w) (Sum.map id fun _=>()) (fun _=>True) (fun _ _ _ _=>trivial)
   (fun i _=>Pa s.bP ee (by omega) (by omega) i) 0 _ a1 trivial
 unfold nZ;simp only[d1,vV,ah2,if_false];rw[Yc s.bP _ s.bh ee,ai];exact aI rfl (aI Ly rfl)
def om (ee:aik)(list:ar):Nat->aik
 | 0=>[]
 | n+1=>om ee list n++(match ee[n]? with
  | some x=>if (n:Int)∈list then [] else [x]
  | none=>[])
theorem C5 (ee:aik)(list:ar): ∀n,(om ee list n).length<=n
 | 0=>by simp[om]
 | n+1=>by
  have:=C5 ee list n;rw[om,dE];split
  ·split
   ·simp only[dM];omega
   simp only[dI,dM];omega
  simp only[dM];omega
theorem JP {ee:aik}{list:ar}: ∀ {n:Nat} {m:b1},m∈om ee list n->m∈ee
 | 0,m,h=>by simp[om] at h
 | n+1,m,h=>by
  rw[om,List.mem_append] at h;rcases h with h|h
  ·exact JP h
  split at h
  ·rename_i x U
   split at h
   ·simp at h
   simp at h;subst h;exact dH U
  simp at h
def uG (s:cv)(list:ar):cv:=⟨s.bP,om s.bh list s.bh.length⟩
theorem GI {n:Nat}(h:n<1000000000000):R ((n:Int)+1)=((n+1:Nat):Int):=by rw[ch (by omega) (by omega)];omega
theorem acY (list:ar)(aO:list.length<=1048576)(k:Int):CE list k=some (decide (k∈list)):=by
 unfold CE O0;rw[gj]
 obtain⟨r,e,h⟩:=qy (f:=fun w:Int=>zE k list (list.length:Nat) w) (fun (i:Nat) (_:Unit)=>(i:Int)) list.length (fun i _=> ∀j,j<i->list[j]? ≠ some k) (fun r=>(r = .inr ()/\k∈list)\/(r = .inl ()/\k ∉ list))
  (fun i ab _ cA=>by
    have U:=dx ab;unfold zE;by_cases c:list[i]=k
    ·right;exact⟨_,eF (dn (aI (x:=list[i]) (by rw[dy];exact U) (fK (tg c) rfl))),.inl ⟨rfl,c▸List.getElem_mem ab⟩⟩
    left;refine⟨(),eF (dn (aI (x:=list[i]) (by rw[dy];exact U) (hI (uw c) (by rw[GI (by omega)])))),fun j au=> ?_⟩;by_cases e:j=i
    ·rw[e,U];exact fun h=>c (dJ h)
    exact cA j (by omega))
  (fun _ cA=>⟨_,by unfold zE;exact fl rfl,.inr ⟨rfl,fun aZ=>by obtain⟨j,au,e⟩:=List.getElem_of_mem aZ;exact cA j au (by rw[dx au,e])⟩⟩) () (fun j au=>by omega)
 rcases h with ⟨rfl,h⟩|⟨rfl,h⟩
 ·exact aI e (by rw[decide_eq_true h])
 exact aI e (by rw[decide_eq_false h])
theorem Zh (list:ar)(aO:list.length<=1048576)(k:Int):tM list k=some (decide (k∈list)):=by
 unfold tM C1 I4;rw[gj]
 obtain⟨r,e,h⟩:=qy (f:=fun w:Int=>tG list k (list.length:Nat) w) (fun (i:Nat) (_:Unit)=>(i:Int)) list.length (fun i _=> ∀j,j<i->list[j]? ≠ some k) (fun r=>(∃i:Nat,r = .inr (i:Int)/\k∈list)\/(r = .inl ()/\k ∉ list))
  (fun i ab _ cA=>by
    have U:=dx ab;unfold tG;by_cases c:list[i]=k
    ·right;exact⟨_,eF (dn (aI (x:=list[i]) (by rw[dy];exact U) (fK (tg c.symm) rfl))),.inl ⟨i,rfl,c▸List.getElem_mem ab⟩⟩
    left;refine⟨(),eF (dn (aI (x:=list[i]) (by rw[dy];exact U) (hI (uw (Ne.symm c)) (by rw[GI (by omega)])))),fun j au=> ?_⟩;by_cases e:j=i
    ·rw[e,U];exact fun h=>c (dJ h)
    exact cA j (by omega))
  (fun _ cA=>⟨_,by unfold tG;exact fl rfl,.inr ⟨rfl,fun aZ=>by obtain⟨j,au,e⟩:=List.getElem_of_mem aZ;exact cA j au (by rw[dx au,e])⟩⟩) () (fun j au=>by omega)
 rcases h with ⟨i,rfl,h⟩|⟨rfl,h⟩
 ·exact aI (x:=(i:Int)) (aI e rfl) (by rw[decide_eq_true h];simp)
 exact aI (x:=(-1:Int)) (aI e rfl) (by rw[decide_eq_false h];rfl)
theorem Zi (s:cv)(au:s.bP.length<=1000)(hm:s.bh.length<=1000)(list:ar)(aO:list.length<=1048576):zF s list=some (uG s list):=by
 unfold zF MU;rw[ff,List.nil_append]
 obtain⟨x,e,-⟩:=iE (f:=fun w:Int×aik=>yR list s.bh (s.bh.length:Nat) s.bP w.1 w.2) (fun (i:Nat) (_:Unit)=>((i:Int),om s.bh list i)) s.bh.length (fun _ _=>True) (fun _=>om s.bh list s.bh.length)
  (fun i ab _ _=>by
    refine⟨(),?_,trivial⟩;have U:=dx ab;have hw:=C5 s.bh list i;have e1:om s.bh list (i+1)=om s.bh list i++(if (i:Int)∈list then [] else [s.bh[i]]):=(by rw[om,U]);unfold yR;refine eF (dn (aI (x:=s.bh[i]) (by simp only;rw[dy];exact U) (aI (acY list aO _) ?_)));simp only;rw[fy (by omega),e1];by_cases c:(i:Int)∈list
    ·rw[dw c];exact fK (decide_eq_true c) (by rw[List.append_nil])
    rw[dA c];exact hI (decide_eq_false c) (cy (by simp only[dE,dI,dM];omega) rfl))
  (fun _ _=>by unfold yR;exact fl rfl) () trivial
 exact dn (aI e rfl)
theorem Zj (s:cv)(au:s.bP.length<=1000)(hm:s.bh.length<=1000)(list:ar)(aO:list.length<=1048576):zI s list=some (uG s list):=by
 unfold zI MV Fp;rw[ff];refine aI (x:=s.bP) (dn rfl) ?_
 obtain⟨x,e,-⟩:=iE (f:=fun w:Int×aik=>yS list s.bh (s.bh.length:Nat) s.bP w.1 w.2) (fun (i:Nat) (_:Unit)=>((i:Int),om s.bh list i)) s.bh.length (fun _ _=>True) (fun _=>om s.bh list s.bh.length)
  (fun i ab _ _=>by
    refine⟨(),?_,trivial⟩;have U:=dx ab;have hw:=C5 s.bh list i;have e1:om s.bh list (i+1)=om s.bh list i++(if (i:Int)∈list then [] else [s.bh[i]]):=(by rw[om,U]);unfold yS;refine eF (dn (aI (x:=s.bh[i]) (by simp only;rw[dy];exact U) (aI (Zh list aO _) ?_)));simp only;rw[fy (by omega),e1];by_cases c:(i:Int)∈list
    ·rw[dw c];exact fK (decide_eq_true c) (by rw[List.append_nil])
    rw[dA c];exact hI (decide_eq_false c) (cy (by simp only[dE,dI,dM];omega) rfl))
  (fun _ _=>by unfold yS;exact fl rfl) () trivial
 exact aI e rfl
theorem Zk {yw:Nat}{l:ar}(h:se yw l=true):l.length=2*yw/\ ∀x∈l,-100<=x/\x<=100:=by unfold se at h;rw[ahU,decide_eq_true_eq,List.all_eq_true] at h;exact⟨h.1,fun x U=>by have:=h.2 x U;unfold rl at this;simpa using this⟩
theorem Jl (s:cv)(i0:mv s)(l:ar)(aO:l.length<=maxLen):
 (sL s l=some true/\wX s l=some true/\nZ s=some true/\se s.bP.length l=true)\/(sL s l=some false/\wX s l=some false):=by
 obtain⟨p,p1,hX⟩:=Ot s i0;have sC:p=true->s.bP.length<=6:=fun h=>(wF s i0 (h▸p1)).2.2.1;have e:=QC s p p1 sC l aO
 cases p with
 | false=>exact .inr ⟨e,aI hX (hI rfl rfl)⟩
 | true =>
  rw[Bool.true_and] at e;have aD:wX s l=some (se s.bP.length l):=aI hX (fK rfl (aI (Zc s (sC rfl) l aO) rfl));by_cases c:se s.bP.length l=true
  ·rw[c] at e aD;exact .inl ⟨e,aD,p1,c⟩
  rw[Bool.not_eq_true] at c;rw[c] at e aD;exact .inr ⟨e,aD⟩
theorem Sg (s:cv)(i0:mv s)(l:ar)(aO:l.length<=maxLen)(h:nZ s=some true)(aL:se s.bP.length l=true):
 ∃r,sJ s l=some r/\uT s l=some r:=by
 obtain⟨f1,f2⟩:=Zk aL;obtain⟨r,r1,bM⟩:=YS s i0 h l f1 f2;have e:=QC s true h (fun _=>(wF s i0 h).2.2.1) l aO;rw[aL] at e;refine⟨r,aI e (fK rfl ?_),bM⟩
 cases ae:wI s l with
 | none=>rw[ae] at r1;cases r1
 | some p =>
  rw[ae] at r1;exact aI rfl (aI (show wG p=some r from r1) rfl)
theorem abM (s:cv)(i0:mv s)(h:nZ s=some true)(list:ar):
 mv (uG s list)/\nZ (uG s list)=some true:=by
 refine⟨⟨i0.1,?_⟩,XT s i0 h _ (fun m hm=>JP hm) (C5 ..)⟩;refine⟨?_,fun m hm=>i0.2.2 m (JP hm)⟩;exact Nat.le_trans (C5 ..) i0.2.1
theorem abN (s:cv)(i0:mv s)(l:ar)(aO:l.length<=maxLen)(h:nZ s=some true)(aL:se s.bP.length l=true)(list:ar)(tr:list.length<=1048576):
 ∃r,(zF s list=some (uG s list)/\sJ (uG s list) l=some r)/\zI s list=some (uG s list)/\uT (uG s list) l=some r:=by
 obtain⟨-,-,aS,bf⟩:=wF s i0 h;obtain⟨j5,oV⟩:=abM s i0 h list;obtain⟨r,r1,bM⟩:=Sg (uG s list) j5 l aO oV aL;exact⟨r,⟨Zi s (by omega) (by omega) list tr,r1⟩,Zj s (by omega) (by omega) list tr,bM⟩
def jt (ee:aik)(k:Int):Bool:=decide (0<=k) && (match ee[k.toNat]? with|some m=>m.gy == 1|none=>false)
theorem FL (s:cv)(k:Int):wu s k=some (jt s.bh k):=by
 unfold wu jt;by_cases h0:0<=k
 ·refine k0 h0 ?_
  by_cases h1:k<s.bh.length
  ·have U:=dx (show k.toNat<s.bh.length by omega);refine k0 (by rw[ff];exact h1) (cy ⟨h0,h1⟩ (aI U ?_));rw[decide_eq_true h0,U];simp
  refine k1 (by rw[ff];exact h1) ?_;rw[dP (by omega)];simp
 refine k1 h0 ?_;rw[decide_eq_false h0];simp
theorem aaN (s:cv)(hm:s.bh.length<=8)(list:ar)(aO:list.length<=1048576):yG list s=some (!(list.all (jt s.bh))):=by
 have no : ∀ {i:Nat} {x:Int},list[i]? = some x->jt s.bh x=false->list.all (jt s.bh)=false:=fun U h=>by rw[List.all_eq_false];exact⟨_,dH U,by rw[h];simp⟩
 have yes:(∀i,i<list.length-> ∀x,list[i]? = some x->jt s.bh x=true)->list.all (jt s.bh)=true:=fun h=>by rw[List.all_eq_true];intro x U;obtain⟨i,ab⟩:=aia U;exact h i (gi ab) x ab
 obtain⟨r,e,h⟩:=qy (f:=fun w:Int=>yB list s.bP s.bh (list.length:Nat) w) (fun (i:Nat) (_:Unit)=>(i:Int)) list.length (fun i _=> ∀j,j<i-> ∀x,list[j]? = some x->jt s.bh x=true) (fun r=>(∃i:Nat,r = .inr (i:Int)/\list.all (jt s.bh)=false)\/(r = .inl ()/\list.all (jt s.bh)=true))
  (fun i ab _ cA=>by
    have U:=dx ab;unfold yB Fc;by_cases c:jt s.bh list[i]=true
    ·left
     refine⟨(),eF (dn (aI (x:=list[i]) (by rw[dy];exact U) (aI (x:=false) (aI (FL _ _) (by rw[c];rfl)) (hI rfl (by rw[GI (by omega)]))))),fun j au x ur=> ?_⟩;by_cases e:j=i
     ·rw[e,U] at ur;obtain rfl:=dJ ur;exact c
     exact cA j (by omega) x ur
    right;rw[Bool.not_eq_true] at c;exact⟨_,eF (dn (aI (x:=list[i]) (by rw[dy];exact U) (aI (x:=true) (aI (FL _ _) (by rw[c];rfl)) (fK rfl rfl)))),.inl ⟨i,rfl,no U c⟩⟩)
  (fun _ cA=>⟨_,by unfold yB;exact fl rfl,.inr ⟨rfl,yes fun i ab=>cA i ab⟩⟩) () (fun j au=>by omega)
 unfold yG E3 Md;rw[gj];rcases h with ⟨i,rfl,h⟩|⟨rfl,h⟩
 ·exact aI (x:=(i:Int)) (aI e rfl) (by rw[h];simp)
 exact aI (x:=(-1:Int)) (aI e rfl) (by rw[h];rfl)
theorem ZY (s:cv)(hm:s.bh.length<=8)(list:ar)(aO:list.length<=1048576):
 Cm s list=some (list.all (jt s.bh))/\yG list s=some (!(list.all (jt s.bh))):=by
 have hw:R (len_ bB s.bh-1)=(s.bh.length:Int)-1:=by rw[ff,ch (by omega) (by omega)]
 have no : ∀ {i:Nat} {x:Int},list[i]? = some x->jt s.bh x=false->list.all (jt s.bh)=false:=fun U h=>by rw[List.all_eq_false];exact⟨_,dH U,by rw[h];simp⟩
 have yes:(∀i,i<list.length-> ∀x,list[i]? = some x->jt s.bh x=true)->list.all (jt s.bh)=true:=fun h=>by rw[List.all_eq_true];intro x U;obtain⟨i,ab⟩:=aia U;exact h i (gi ab) x ab
 constructor
 ·obtain⟨r,e,h⟩:=qy (f:=fun w:Int=>zk list (list.length:Nat) s.bP s.bh w) (fun (i:Nat) (_:Unit)=>(i:Int)) list.length (fun i _=> ∀j,j<i-> ∀x,list[j]? = some x->jt s.bh x=true) (fun r=>(r = .inr ()/\list.all (jt s.bh)=false)\/(r = .inl ()/\list.all (jt s.bh)=true))
   (fun i ab _ cA=>by
     have U:=dx ab
     have gW:jt s.bh list[i]=true-> ∀j,j<i+1-> ∀x,list[j]? = some x->jt s.bh x=true:=fun h j au x ur=>by
      by_cases e:j=i
      ·rw[e,U] at ur;obtain rfl:=dJ ur;exact h
      exact cA j (by omega) x ur
     unfold zk;have aL:nh list[i] 0 (R (len_ bB s.bh-1))=some (decide (0<=list[i]/\list[i]<=(s.bh.length:Int)-1)):=(by rw[hw,rX]);by_cases c:0<=list[i]/\list[i]<=(s.bh.length:Int)-1
     ·have aR:=dx (show list[i].toNat<s.bh.length by omega)
      have ai:jt s.bh list[i]=(s.bh[list[i].toNat].gy == 1):=(by unfold jt;rw[aR,decide_eq_true c.1];simp);by_cases d:s.bh[list[i].toNat].gy=1
      ·left;exact⟨(),eF (dn (aI (x:=list[i]) (by rw[dy];exact U) (aI aL (fK (decide_eq_true c) (dn (aI aR (hI (xT d) (by rw[GI (by omega)])))))))),gW (by rw[ai,d];rfl)⟩
      right;exact⟨_,eF (dn (aI (x:=list[i]) (by rw[dy];exact U) (aI aL (fK (decide_eq_true c) (dn (aI aR (fK (vM d) rfl))))))),.inl ⟨rfl,no U (by rw[ai];exact uw d)⟩⟩
     right
     have ai:jt s.bh list[i]=false:=by
      unfold jt;by_cases cW:0<=list[i]
      ·rw[dP (by omega)];simp
      rw[decide_eq_false cW];simp
     exact⟨_,eF (dn (aI (x:=list[i]) (by rw[dy];exact U) (aI aL (hI (decide_eq_false c) rfl)))),.inl ⟨rfl,no U ai⟩⟩)
   (fun _ cA=>⟨_,by unfold zk;exact fl rfl,.inr ⟨rfl,yes fun i ab=>cA i ab⟩⟩) () (fun j au=>by omega)
  unfold Cm Oi;rw[gj];rcases h with ⟨rfl,h⟩|⟨rfl,h⟩
  ·exact aI e (by rw[h])
  exact aI e (by rw[h])
 exact aaN s hm list aO
theorem XU (s:cv)(i0:mv s)(l:ar)(aO:l.length<=maxLen)(list:ar)(tr:list.length<=1048576): ∃r,wJ s l list=some r/\wK s l list=some r:=by
 unfold wJ wK;rcases Jl s i0 l aO with ⟨e1,aD,h,aL⟩|⟨e1,aD⟩
 ·obtain⟨-,-,aS,bf⟩:=wF s i0 h
  obtain⟨q1,a0⟩:=ZY s bf list tr;by_cases c:list.all (jt s.bh)=true
  ·obtain⟨r,⟨j5,oV⟩,rR,Hx⟩:=abN s i0 l aO h aL list tr;rw[c] at q1 a0;exact⟨r,aI e1 (fK rfl (aI q1 (fK rfl (aI j5 (aI oV rfl))))),aI aD (fK rfl (aI a0 (hI rfl (aI rR (aI Hx rfl)))))⟩
  rw[Bool.not_eq_true] at c;rw[c] at q1 a0;exact⟨false,aI e1 (fK rfl (aI q1 (hI rfl rfl))),aI aD (fK rfl (aI a0 (fK rfl rfl)))⟩
 exact⟨false,aI e1 (hI rfl rfl),aI aD (hI rfl rfl)⟩
theorem abO (s:cv)(i0:mv s)(l:ar)(aO:l.length<=maxLen): ∃r,sJ s l=some r/\Fo s l=some r:=by
 rcases Jl s i0 l aO with ⟨e1,aD,h,aL⟩|⟨e1,aD⟩
 ·obtain⟨r,r1,bM⟩:=Sg s i0 l aO h aL;exact⟨r,r1,aI aD (fK rfl (aI bM rfl))⟩
 exact⟨false,aI e1 (hI rfl rfl),aI aD (hI rfl rfl)⟩
noncomputable def ts (s:cv)(l list:ar):Bool:=(wJ s l list).getD false
theorem Rd (s:cv)(i0:mv s)(l:ar)(aO:l.length<=maxLen)(list:ar)(tr:list.length<=1048576):wJ s l list=some (ts s l list)/\wK s l list=some (ts s l list):=by
 obtain⟨r,r1,bM⟩:=XU s i0 l aO list tr;have:ts s l list=r:=by unfold ts;rw[r1];rfl
 rw[this];exact⟨r1,bM⟩
theorem abP {ee:aik}{n:Nat}{x:b1}(h:ee[n]? = some x):jt ee (n:Int)=(x.gy == 1):=by unfold jt;rw[dy,h,decide_eq_true (by omega)];simp
theorem aaO (s:cv)(l:ar)(h:sJ s l=some true):sL s l=some true:=by
 unfold sJ at h
 cases e:sL s l with
 | none=>rw[e] at h;cases h
 | some b =>
  cases b with
  | true=>rfl
  | false=>rw[e] at h;cases h
theorem Zl (s:cv)(i0:mv s)(l:ar)(aO:l.length<=maxLen)(h:sJ s l=some true):s.bh.length<=8:=by
 rcases Jl s i0 l aO with ⟨-,-,h,-⟩|⟨e1,-⟩
 ·exact(wF s i0 h).2.2.2
 rw[aaO s l h] at e1;cases e1
noncomputable def aK (s:cv)(l:ar):Nat->ar
 | 0=>[]
 | n+1=>if jt s.bh (n:Int) && ts s l (aK s l n++[(n:Int)]) then aK s l n++[(n:Int)] else aK s l n
theorem F6 (s:cv)(l:ar): ∀n,(aK s l n).length<=n
 | 0=>by simp[aK]
 | n+1=>by
  have:=F6 s l n;unfold aK;split
  ·rw[dE,List.length_singleton];omega
  omega
theorem ZZ (s:cv)(i0:mv s)(l:ar)(aO:l.length<=maxLen)(bf:s.bh.length<=8):H3 l s.bh ((s.bh.length:Nat):Int) s.bP 0 []=some (aK s l s.bh.length):=by
 unfold H3
 obtain⟨_,e,-⟩:=iE (f:=fun w:Int×ar=>yZ l s.bh ((s.bh.length:Nat):Int) s.bP w.1 w.2) (fun (n:Nat) (_:Unit)=>((n:Int),aK s l n)) s.bh.length (fun _ _=>True) (fun _=>aK s l s.bh.length)
  (fun n aX _ _=>by
    refine⟨(),?_,trivial⟩;have U:=dx aX;have dj:=F6 s l n;have ai:=abP U;obtain⟨e1,-⟩:=Rd s i0 l aO (([]++aK s l n)++[(n:Int)]) (by simp only[List.nil_append,dE,List.length_singleton];omega);have Us:([]:ar)++aK s l n=aK s l n:=List.nil_append _;have step:aK s l (n+1)=if jt s.bh (n:Int) && ts s l (aK s l n++[(n:Int)]) then aK s l n++[(n:Int)] else aK s l n:=rfl;rw[step];simp only;unfold yZ;rw[fy (by omega)];refine eF (dn (aI (gt rfl U) ?_));by_cases c:s.bh[n].gy=1
    ·have hv:jt s.bh (n:Int)=true:=by rw[ai];exact tg c
     refine hI (xT c) (cy (by rw[Us];omega) (cy (by simp only[List.nil_append,dE,List.length_singleton];omega) (aI e1 ?_)));rw[Us,hv,Bool.true_and]
     cases ts s l (aK s l n++[(n:Int)]) with
     | true=>exact fK rfl rfl
     | false=>exact hI rfl rfl
    have hv:jt s.bh (n:Int)=false:=(by rw[ai];exact uw c);refine fK (vM c) ?_;rw[hv,Bool.false_and];rfl)
  (fun _ _=>by simp only;unfold yZ;exact fl rfl) () trivial
 exact e
def afj (n:Nat)(I:ar):Int⊕(Int×ar):=match I with
 | []=> .inl (n:Int)
 | x::t=> .inr ((n:Int),x::t)
def SZ (I:ar):Unit⊕ar:=match I with
 | []=> .inl ()
 | x::t=> .inr (x::t)
theorem Z0 (s:cv)(i0:mv s)(l:ar)(aO:l.length<=maxLen)(bf:s.bh.length<=8):HT l ((s.bh.length:Nat):Int) s.bP s.bh 0=some (SZ (aK s l s.bh.length)):=by
 unfold HT
 obtain⟨_,e,-⟩:=iE (f:=HH l ((s.bh.length:Nat):Int) s.bP s.bh) (fun (n:Nat) (_:Unit)=>afj n (aK s l n)) s.bh.length (fun _ _=>True) (fun _=>SZ (aK s l s.bh.length))
  (fun n aX _ _=>by
    refine⟨(),?_,trivial⟩;have dj:=F6 s l n;have hw:R ((n:Int)+(1:Int))=((n+1:Nat):Int):=fy (by omega);obtain⟨-,e1⟩:=Rd s i0 l aO (aK s l n++[(n:Int)]) (by simp only[dE,List.length_singleton];omega);have step:aK s l (n+1)=if jt s.bh (n:Int) && ts s l (aK s l n++[(n:Int)]) then aK s l n++[(n:Int)] else aK s l n:=rfl;rw[step]
    cases ah:aK s l n with
    | nil =>
     rw[ah] at e1;show wg l _ s.bP s.bh (n:Int)=_;unfold wg;rw[hw];refine eF (aI (FL s n) ?_)
     cases jt s.bh (n:Int) with
     | false=>exact hI rfl rfl
     | true =>
      rw[Bool.true_and];refine fK rfl (cy (by rw[List.length_singleton];omega) (aI e1 ?_));rw[List.nil_append]
      cases ts s l [(n:Int)] with
      | true=>exact fK rfl rfl
      | false=>exact hI rfl rfl
    | cons x t =>
     rw[ah] at e1 dj;show we l _ s.bP s.bh (n:Int) (x::t)=_;unfold we;rw[hw];refine eF (aI (FL s n) ?_)
     cases jt s.bh (n:Int) with
     | false=>exact hI rfl rfl
     | true =>
      rw[Bool.true_and];refine fK rfl (aI (x:=x::t) (cy ⟨by simp,by omega⟩ rfl) (cy (by rw[dE,List.length_singleton];omega) (aI e1 ?_)))
      cases ts s l (x::t++[(n:Int)]) with
      | true=>exact fK rfl (cy (by rw[dE,List.length_singleton];omega) rfl)
      | false=>exact hI rfl rfl)
  (fun _ _=>by
    cases ah:aK s l s.bh.length with
    | nil=>show wg l _ s.bP s.bh _=_;unfold wg;exact fl rfl
    | cons x t=>show we l _ s.bP s.bh _ (x::t)=_;unfold we;exact fl rfl) () trivial
 exact e
theorem YT (s:cv)(i0:mv s)(l:ar)(aO:l.length<=maxLen): ∃r,BZ s l=some r/\((zP s l=some (.inr r))\/(zP s l=some (.inl ())/\r=[]))/\r.length<=8:=by
 obtain⟨c,bl,b8⟩:=abO s i0 l aO;unfold BZ zP
 cases c with
 | false=>exact⟨[],aI bl (hI rfl rfl),.inr ⟨aI b8 (hI rfl rfl),rfl⟩,by simp⟩
 | true =>
  have bf:=Zl s i0 l aO bl;have fV:=ff bB s.bh;have f1:=ZZ s i0 l aO bf;have f2:=Z0 s i0 l aO bf;have dj:=F6 s l s.bh.length;rw[fV];refine⟨aK s l s.bh.length,aI bl (fK rfl (aI f1 rfl)),?_,by omega⟩
  cases ah:aK s l s.bh.length with
  | nil=>rw[ah] at f2;exact .inr ⟨aI b8 (fK rfl (aI f2 rfl)),rfl⟩
  | cons x t=>rw[ah] at f2;exact .inl (aI b8 (fK rfl (aI f2 rfl)))
theorem U7 (x0:cv)(x1:ar)(i0:mv x0)(i1:(fun l=>l.length<=maxLen/\ ∀x∈l,pF x) x1):E7 x0 x1=some true:=by
 unfold E7;rw[gj];by_cases h1:(1048576:Int)<(x1.length:Nat)
 ·exact k0 h1 rfl
 refine k1 h1 ?_;obtain⟨r,r1,bM⟩:=Xw x0 i0 1048576 (by omega) (by omega);refine aI r1 ?_;by_cases o:r<0
 ·exact k0 o rfl
 obtain⟨gU,h7⟩:=bM (by omega);obtain⟨q,q1,a0,hJ⟩:=YT x0 i0 x1 i1.1;obtain⟨kX,oq,iN,d1,d2,vV,Ut,ahS⟩:=Wr (k:=1) (l:=x0.bP) (m:=x0.bh) (by omega) (by omega);refine k1 o (aI (Xx x0 gU h7) (aI (Zd x1 (by omega)) (aI q1 ?_)));rcases a0 with g|⟨g,rfl⟩
 ·refine aI g (aI (Fz q (by omega)) (fK rfl (aI (Oq x0 gU h7) (fK rfl (aI (Fz x1 (by omega)) (fK rfl (aI d1 (cy d2.symm (cy vV.symm (aI (IJ Ut (by omega)) (fl (aI (IJ (by omega) (by omega)) (cy (by simp only[Al];omega) ?_)))))))))))));simp only;rw[List.drop_zero,dQ (by rw[Al];omega)];exact aI (Pb (by omega) (by omega)) (fl (hI (xT rfl) rfl))
 exact aI g (aI (Fz [] (by simp)) (fK rfl (aI (Oq x0 gU h7) (fK rfl (aI (Fz x1 (by omega)) (fK rfl (aI d1 (cy d2.symm (cy vV.symm (aI (IJ Ut (by omega)) (fl (aI (YL 1) (aI (YM (by omega) (by omega)) (fl (hI rfl rfl)))))))))))))))
def T8:List ByteArray:=[⟨#[97]⟩,⟨#[98]⟩,⟨#[99]⟩,⟨#[100]⟩]
structure Hr (s:cv):Prop where
 v:oR s
 ok:uY s=some true
 ahT:3<=s.bP.length
 hG:2<=s.bh.length
 afR:s.bP.map (·.hs)=T8.take s.bP.length
 E0 : ∀j∈s.bP,-4<=j.ga/\j.ga<=8/\ -9<=j.f5/\j.f5<=3
structure GJ (K:Nat) (z:Nat->Rat) (w:Rat):Prop where
 pos:0<w
 sF:eg K w
 afS : ∀k,eg K (z k*w)
 afk:1000*K<=21*100*(fL*fL)
theorem GJ.fit {K:Nat}{z:Nat->Rat}{w x:Rat}(h:GJ K z w){a:Nat}(bC:a<=1000)(U:eg (a*K) (x*w)):gu x:=by have ae:=h.pos;have h1:=h.afk;have o:a*K<=1000*K:=ahY _ bC;exact vu (K:=21*100*(fL*fL)) (h.sF.mono (by omega)) (U.mono (by omega)) (by grind) (by grind) (vv (dG _))
theorem eg.int {z:Int}{K:Nat}(h:z.natAbs<=K):eg K (z:Rat):=⟨z,rfl,h⟩
theorem GJ.fits {K:Nat}{z:Nat->Rat}{w:Rat}(h:GJ K z w){n:Nat}(aX:n<=8){e:Nat->Int}(he:∀k,-100<=e k/\e k<=100){f:Int}(b5:-100<=f/\f<=100):gu (cq n (fun k=>z k*(e k:Rat))+(f:Rat)):=h.fit (a:=n*100+100) (by omega) (by
 have e1:(cq n (fun k=>z k*(e k:Rat))+(f:Rat))*w=cq n (fun k=>(e k:Rat)*(z k*w))+(f:Rat)*w:=by rw[Rat.add_mul,<- va];congr 1;exact fX fun k _=>by grind
 rw[e1,Nat.add_mul];refine eg.add ?_ ((eg.int (by omega)).mul h.sF);rw[Nat.mul_assoc];exact eg.sum fun k _=>(eg.int (by have:=he k;omega)).mul (h.afS k))
theorem Hr.Bw {s:cv}(d:Hr s):s.bP.length<=4:=by have:=congrArg List.length d.afR;rw[ah8,List.length_take] at this;have e:T8.length=4:=rfl;omega
structure afl (s:cv):Prop where
 v:oR s
 ok:uY s=some true
 Bw:s.bP.length<=4
theorem Hr.V {s:cv}(d:Hr s):afl s:=⟨d.v,d.ok,d.Bw⟩
end Go.Proofs.YtopadgleejacdabGreat
