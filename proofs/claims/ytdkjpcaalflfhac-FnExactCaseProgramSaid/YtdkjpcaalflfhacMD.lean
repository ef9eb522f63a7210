/- Lemmas, plain functions of the program, and what they answer. No condition. -/
import Derived.Test.YtdkjpcaalflfhacMC
namespace Go.Proofs.Ytdkjpcaalflfhac
set_option linter.unusedVariables false
set_option linter.unusedSimpArgs false
open Go Go.VL
theorem LM {n:Nat}(h:n≤10000000):ak ((n:Int)+1)=((n+1:Nat):Int):=by rw [cW (by omega) (by omega)];rfl
theorem nn (l:List Int):len_ eI l=l.length:=cP _ l
def Pa (x:Int):Bool:=decide (0≤x) && decide (x<1000000000)
theorem Ke {b:List Int}{i:Nat}{y:Int}(h1:∀z,b[i]? = some z→y=z)(I:b[i]? = none→y=0):V (b.take (i+1))=V (b.take i)+B i*y:=by
 cases h:b[i]? with
 | some z=>rw [h1 z h,Ky h]
 | none =>
  rw [I h]
  have:b.length≤i:=by simpa using h
  rw [List.take_of_length_le (by omega),List.take_of_length_le (by omega)]
  simp
def Af (p:Nat)(l:List Int):Prop:= ∀i z,i≠p→l[i]? = some z→0≤z∧z<1000000000
theorem Af.set {p:Nat}{l:List Int}(h:Af p l){k:Nat}{x:Int}(J:0≤x∧x<1000000000):Af p (l.set k x):=fun i z an cl=>by
 by_cases aR:k=i
 ·subst aR
  rw [List.getElem?_set] at cl
  simp only [if_true] at cl
  split at cl
  ·rw [← Option.some.inj cl];exact J
  ·simp at cl
 ·rw [List.getElem?_set_ne aR] at cl
  exact h i z an cl
theorem nZ (n bV an:Int):lh n bV an=some (decide (bV≤n∧n≤an)):=by
 unfold lh
 by_cases h:bV≤n<;>simp [h]
theorem vw {α β:Type}{t:Nat→α→Option β}: ∀(l:List α) (k:Nat),(∀n x,l[n]? = some x→t (k+n) x=none)→scan t k l=none
 | [],_,_=>rfl
 | x::l,k,h=>by
  have h0:=h 0 x rfl
  simp only [Nat.add_zero] at h0
  simp only [scan,h0]
  exact vw l (k+1) fun n y aG=>by rw [show k+1+n=k+(n+1) by omega];exact h (n+1) y (by simpa using aG)
theorem vk (l:List Int)(h:l.length≤1048576):nV l l=some true:=by
 have h1:y9 l l 0=some (.inl ()):=by
  have:=vt (f:=fun w=>qA l l w) (t:=fun _ _=>none) (e:= .inl ()) l 0 (fun n x J=>by
   have a5:=d8 J
   have hw:ak ((n:Int)+1)=((n+1:Nat):Int):=by rw [cW (by omega) (by omega)];rfl
   simp only [qA,cP,Nat.zero_add,hw]
   simp [a5]) (by simp [qA,cP])
  rw [vw l 0 (fun _ _ _=>rfl)] at this
  exact this
 simp [nV,h1]
theorem Iz (j:aQ):sM j j=some true:=by simp [sM]
theorem Ig (j:a2):sD j j=some true:=by simp [sD]
theorem Ih (l:List aQ)(h:l.length≤1048576):sC l l=some true:=by
 have h1:yX l l 0=some (.inl ()):=by
  have:=vt (f:=fun w=>qo l l w) (t:=fun _ _=>none) (e:= .inl ()) l 0 (fun n x J=>by
   have a5:=d8 J
   have hw:ak ((n:Int)+1)=((n+1:Nat):Int):=by rw [cW (by omega) (by omega)];rfl
   simp only [qo,cP,Nat.zero_add,hw]
   simp [a5,Iz]) (by simp [qo,cP])
  rw [vw l 0 (fun _ _ _=>rfl)] at this
  exact this
 simp [sC,h1]
theorem H4 (l:List a2)(h:l.length≤1048576):sv l l=some true:=by
 have h1:yS l l 0=some (.inl ()):=by
  have:=vt (f:=fun w=>ql l l w) (t:=fun _ _=>none) (e:= .inl ()) l 0 (fun n x J=>by
   have a5:=d8 J
   have hw:ak ((n:Int)+1)=((n+1:Nat):Int):=by rw [cW (by omega) (by omega)];rfl
   simp only [ql,cP,Nat.zero_add,hw]
   simp [a5,Ig]) (by simp [ql,cP])
  rw [vw l 0 (fun _ _ _=>rfl)] at this
  exact this
 simp [sv,h1]
theorem B0 (s:bE)(h1:s.a3.length≤1048576)(I:s.a7.length≤1048576):qH s s=some true:=by
 simp [qH,Ih _ h1,H4 _ I]
theorem IA (j:aQ)(left:Int)(aq:j.eP.size≤maxLen)(h0:0≤left)(h1:left≤1048576): ∃r,sG j left=some r∧r≤left:=by
 have hm:j.eP.size<9223372036854775808:=by have:maxLen=9223372036854775807:=by decide
                                           omega
 have hw:ak (left-j.eP.size)=left-j.eP.size:=cW (by omega) (by omega)
 unfold sG
 rw [hw]
 by_cases h:left-(j.eP.size:Int)<0
 ·exact ⟨-1,by simp [h],by omega⟩
 ·exact ⟨left-j.eP.size,by simp [h],by omega⟩
theorem Cc (l:List aQ)(left:Int)(av:l.length≤maxLen)(aq:∀j∈l,j.eP.size≤maxLen)(h0:0≤left)(h1:left≤1048576):
 ∃r,sw l left=some r∧r≤left∧(0≤r→l.length≤1048576):=by
 have hm:maxLen=9223372036854775807:=by decide
 have hw:ak (left-(l.length:Nat))=left-(l.length:Nat):=cW (by omega) (by omega)
 unfold sw
 simp only [cP,hw]
 by_cases h:left-(l.length:Int)<0
 ·exact ⟨-1,by simp [h],by omega,by omega⟩
 ·obtain ⟨r,r1,bF⟩:=lk (f:=fun w:Int×Int=>oC l w.1 w.2) (fun w=>0≤w.1∧w.1≤left∧0≤w.2∧w.2≤l.length) (fun w=>(l.length-w.2).toNat)
   (fun r=>match r with | .inl a=>a≤left | .inr _=>True) (fun w hw=>by
     obtain ⟨a,i⟩:=w
     simp only at hw
     obtain ⟨lL,jP,nc,Fj⟩:=hw
     by_cases an:i<l.length
     ·obtain ⟨x,J⟩ : ∃x,l[i.toNat]? = some x:=⟨_,List.getElem?_eq_getElem (by omega)⟩
      obtain ⟨r,s1,s2⟩:=IA x a (aq x (List.mem_of_getElem? J)) lL (by omega)
      obtain ⟨a5,rfl⟩:=List.getElem?_eq_some_iff.1 J
      have uo:ak (i+1)=i+1:=cW (by omega) (by omega)
      by_cases ah:r<0
      ·right
       exact ⟨.inr (),by simp [oC,cP,an,nc,J,s1,ah],trivial⟩
      ·left
       refine ⟨(r,i+1),by simp [oC,cP,an,nc,J,s1,ah,uo],?_,?_⟩
       ·simp only;omega
       ·simp only;omega
     ·right
      exact ⟨.inl a,by simp [oC,cP,an],by simpa using jP⟩) (left-(l.length:Nat),0) (by simp only;omega)
  have AW:yU l (left-(l.length:Nat)) 0=some r:=r1
  rw [AW]
  cases r with
  | inl a=>exact ⟨a,by simp [h],bF,by omega⟩
  | inr a=>exact ⟨-1,by simp [h],by omega,by omega⟩
theorem B8 (l:List a2)(left:Int)(av:l.length≤maxLen)(h0:0≤left)(h1:left≤1048576):
 ∃r,sr l left=some r∧r≤left∧(0≤r→l.length≤1048576):=by
 have hm:maxLen=9223372036854775807:=by decide
 have hw:ak (left-(l.length:Nat))=left-(l.length:Nat):=cW (by omega) (by omega)
 unfold sr
 simp only [cP,hw]
 by_cases h:left-(l.length:Int)<0
 ·exact ⟨-1,by simp [h],by omega,by omega⟩
 ·exact ⟨left-(l.length:Nat),by simp [h],by omega,by omega⟩
theorem HE (s:bE)(i0:mh s)(left:Int)(h0:0≤left)(h1:left≤1048576):
 ∃r,oG s left=some r∧(0≤r→s.a3.length≤1048576∧s.a7.length≤1048576):=by
 obtain ⟨⟨eM,fR⟩,dM,fS⟩:=i0
 obtain ⟨r,r1,bF,cv⟩:=Cc s.a3 left eM (fun j aq=>(fR j aq).1) h0 h1
 unfold oG
 rw [r1]
 by_cases h:r<0
 ·exact ⟨-1,by simp [h],by omega⟩
 ·obtain ⟨q,q1,bu,cr⟩:=B8 s.a7 r dM (by omega) (by omega)
  by_cases aE:q<0
  ·exact ⟨-1,by simp [h,q1,aE],by omega⟩
  ·exact ⟨q,by simp [h,q1,aE],fun _=>⟨cv (by omega),cr (by omega)⟩⟩
theorem nX:maxLen=9223372036854775807:=by decide
theorem Jc (n:Int):qO n=lh n (-50) 50:=by
 rw [nZ]
 unfold qO
 by_cases h : -50≤n<;>simp [h]
theorem IQ (c:Int):sA c=some (decide (97≤c∧c≤122)):=by
 unfold sA
 by_cases h:97≤c<;>simp [h]
theorem Jd (c:Int):sJ c=some (decide (48≤c∧c≤57)):=by
 unfold sJ
 by_cases h:48≤c<;>simp [h]
theorem IR (s:ByteArray)(i:Int):sc s s.size i=nR s i:=by
 unfold sc nR
 generalize ((s.data.toList.getD i.toNat 0).toNat:Int)=c
 simp only [IQ,Jd,Option.bind_eq_bind,Option.bind_some]
 by_cases h1:i<(s.size:Int)<;>by_cases h0:0≤i<;>by_cases a:(97:Int)≤c<;>by_cases b:c≤122<;>by_cases d:i=0<;>by_cases e:c<48<;>by_cases f:57<c <;>
  simp [h1,h0,a,b,d,e,f,Int.not_lt.1,Int.not_le]<;>omega
theorem Jy (s:ByteArray):sR s=nU s:=by
 have h:u7 s s.size 0=st s 0:=by
  unfold u7 st
  congr 1
  funext w
  exact IR s w
 unfold sR nU
 rw [h]
 congr 1
 funext r
 cases r with
 | inr a=>rfl
 | inl a =>
  simp only [nZ,Option.bind_eq_bind,Option.bind_some]
  by_cases h0:s.size=0
  ·have:s=⟨#[]⟩:=by
    cases s with
    | mk d=>simp only [ByteArray.size] at h0;rw [Array.size_eq_zero_iff] at h0;rw [h0]
   subst this
   have e0:(ByteArray.mk #[]).size=0:=rfl
   simp [e0]
  ·have b7:s.toList≠(⟨#[]⟩:ByteArray).toList:=by
    intro e
    have av : ∀x:ByteArray,x.toList.length=x.size:=by intro x;rw [ByteArray.toList_eq];rfl
    have:=av s
    rw [e,av] at this
    exact h0 this.symm
   simp only [beq_iff_eq,b7,Bool.not_eq_true',beq_eq_false_iff_ne,ne_eq,not_false_eq_true,if_true]
   congr 1
   apply decide_eq_decide.2
   omega
theorem IU (s:ByteArray)(bZ:s.size≤maxLen): ∃r,nU s=some r:=by
 have hm:=nX
 obtain ⟨r,h,-⟩:=lk (f:=fun w=>nR s w) (fun i=>0≤i∧i≤s.size) (fun i=>(s.size-i).toNat) (fun _=>True) (fun i an=>by
  obtain ⟨h0,h1⟩:=an
  by_cases I:i<(s.size:Int)
  ·have hw:ak (i+1)=i+1:=cW (by omega) (by omega)
   unfold nR
   generalize ((s.data.toList.getD i.toNat 0).toNat:Int)=c
   have LN:0≤i+1∧i+1≤(s.size:Int):=by omega
   have jk:((s.size:Int)-(i+1)).toNat<((s.size:Int)-i).toNat:=by omega
   have key : ∀x:Option (Int⊕(Unit⊕Unit)),(x=some (.inl (i+1))∨x=some (.inr (.inr ())))→(∃cm,x=some (.inl cm)∧(0≤cm∧cm≤(s.size:Int))∧((s.size:Int)-cm).toNat<((s.size:Int)-i).toNat)∨ ∃r,x=some (.inr r)∧True:=by
    intro x J
    rcases J with J|J
    ·exact .inl ⟨i+1,J,LN,jk⟩
    ·exact .inr ⟨_,J,trivial⟩
   apply key
   simp only [I,h0,hw,decide_true,if_true,and_self]
   by_cases a:(97:Int)≤c<;>by_cases b:c≤122<;>by_cases d:i=0<;>by_cases e:c<48<;>by_cases f:57<c<;>simp [a,b,d,e,f]
  ·exact .inr ⟨.inl (),by simp [nR,I],trivial⟩) 0 (by omega)
 have bT:st s 0=some r:=h
 unfold nU
 rw [bT]
 cases r with
 | inl a=>exact ⟨_,by simp [nZ];rfl⟩
 | inr a=>exact ⟨_,rfl⟩
theorem Je (j:aQ):sK j=lg j:=by
 unfold sK lg
 simp only [Jy,Jc]
theorem Ce (j:aQ)(h:j.eP.size≤maxLen): ∃r,lg j=some r:=by
 obtain ⟨r,ah⟩:=IU _ h
 unfold lg
 simp only [ah,nZ,Option.bind_eq_bind,Option.bind_some]
 repeat' split
 all_goals exact ⟨_,rfl⟩
theorem Ii (s:bE)(n:ByteArray):sq s n=oJ s n:=by
 have h:uL s.a3 n (len_ aH s.a3) 0=qB n s.a3 (len_ aH s.a3) 0:=by
  unfold uL qB
  congr 1
 unfold sq oJ uP
 rw [h]
 cases qB n s.a3 (len_ aH s.a3) 0 with
 | none=>rfl
 | some r=>cases r<;>rfl
theorem B5 (s:bE)(n:ByteArray)(h:s.a3.length≤maxLen): ∃r,oJ s n=some r:=by
 have hm:=nX
 obtain ⟨r,h1,-⟩:=lk (f:=fun w=>qa n s.a3 (len_ aH s.a3) w) (fun i=>0≤i∧i≤s.a3.length) (fun i=>(s.a3.length-i).toNat) (fun _=>True) (fun i an=>by
  obtain ⟨h0,h1⟩:=an
  by_cases I:i<(s.a3.length:Int)
  ·have hw:ak (i+1)=i+1:=cW (by omega) (by omega)
   obtain ⟨x,J⟩ : ∃x,s.a3[i.toNat]? = some x:=⟨_,List.getElem?_eq_getElem (by omega)⟩
   unfold qa
   simp only [cP,I,h0,hw,J,decide_true,if_true,and_self,Option.bind_eq_bind,Option.bind_some]
   by_cases e:(x.eP.toList == n.toList)=true
   ·exact .inr ⟨_,by rw [if_pos e],trivial⟩
   ·exact .inl ⟨i+1,by rw [if_neg e],by omega,by omega⟩
  ·exact .inr ⟨.inl (),by simp [qa,cP,I],trivial⟩) 0 (by omega)
 have bT:qB n s.a3 (len_ aH s.a3) 0=some r:=h1
 unfold oJ
 rw [bT]
 cases r with
 | inl a=>exact ⟨_,rfl⟩
 | inr a=>exact ⟨_,rfl⟩
theorem B6 (s:bE):uW s.a3 (len_ aH s.a3) s.a7 0=oE s.a3 (len_ aH s.a3) s.a7 0:=by
 unfold uW oE
 congr 1
 funext w
 unfold uS mM
 simp only [Je,Ii]
theorem BZ (s:bE)(i0:mh s): ∃r,oE s.a3 (len_ aH s.a3) s.a7 0=some r:=by
 have hm:=nX
 obtain ⟨⟨eM,fR⟩,-⟩:=i0
 obtain ⟨r,h1,-⟩:=lk (f:=fun w=>mM s.a3 (len_ aH s.a3) s.a7 w) (fun i=>0≤i∧i≤s.a3.length) (fun i=>(s.a3.length-i).toNat) (fun _=>True) (fun i an=>by
  obtain ⟨h0,h1⟩:=an
  by_cases I:i<(s.a3.length:Int)
  ·have hw:ak (i+1)=i+1:=cW (by omega) (by omega)
   obtain ⟨x,J⟩ : ∃x,s.a3[i.toNat]? = some x:=⟨_,List.getElem?_eq_getElem (by omega)⟩
   obtain ⟨p,ad⟩:=Ce x (fR x (List.mem_of_getElem? J)).1
   obtain ⟨q,aE⟩:=B5 ⟨s.a3,s.a7⟩ x.eP eM
   unfold mM
   simp only [cP,I,h0,hw,J,ad,aE,decide_true,if_true,and_self,Option.bind_eq_bind,Option.bind_some]
   by_cases e:p=true
   ·rw [if_pos e]
    by_cases au:(q != i)=true
    ·exact .inr ⟨_,by rw [if_pos au],trivial⟩
    ·exact .inl ⟨i+1,by rw [if_neg au],by omega,by omega⟩
   ·exact .inr ⟨_,by rw [if_neg e],trivial⟩
  ·exact .inr ⟨.inl (),by simp [mM,cP,I],trivial⟩) 0 (by omega)
 exact ⟨r,h1⟩
def lQ (eX:List aQ)(m:a2):Bool :=
 decide (0≤m.c9∧m.c9<eX.length∧0≤m.c7∧m.c7<eX.length∧1≤m.el∧m.el≤3) &&
 match eX[m.c9.toNat]?,eX[m.c7.toNat]? with
 | some a,some b=> !(a.dQ == b.dQ && a.dO == b.dO) && !(a.ev && b.ev)
 | _,_=>false
theorem zn (s:bE)(m:a2):sa s m=some (lQ s.a3 m):=by
 unfold sa lQ
 simp only [cP]
 by_cases h1:m.c9<0
 ·simp [h1];omega
 by_cases I:(s.a3.length:Int)≤m.c9
 ·simp [h1,I];omega
 by_cases aj:m.c7<0
 ·simp [h1,I,aj];omega
 by_cases aB:(s.a3.length:Int)≤m.c7
 ·simp [h1,I,aj,aB];omega
 by_cases bk:m.el<1
 ·simp [h1,I,aj,aB,bk];omega
 by_cases bq:3<m.el
 ·simp [h1,I,aj,aB,bk,bq];omega
 obtain ⟨x,J⟩ : ∃x,s.a3[m.c9.toNat]? = some x:=⟨_,List.getElem?_eq_getElem (by omega)⟩
 obtain ⟨y,aG⟩ : ∃y,s.a3[m.c7.toNat]? = some y:=⟨_,List.getElem?_eq_getElem (by omega)⟩
 have bS:0≤m.c9∧m.c9<s.a3.length:=by omega
 have dh:0≤m.c7∧m.c7<s.a3.length:=by omega
 have i6:0≤m.c9∧m.c9<s.a3.length∧0≤m.c7∧m.c7<s.a3.length∧1≤m.el∧m.el≤3:=by omega
 rw [decide_eq_false h1,decide_eq_false I,decide_eq_false aj,decide_eq_false aB,decide_eq_false bk,decide_eq_false bq,decide_eq_true i6,if_pos bS,J]
 simp only [Bool.false_eq_true,if_false,Option.bind_eq_bind,Option.bind_some,Bool.true_and]
 rw [if_pos dh,aG]
 simp only [Option.bind_some]
 by_cases e1:x.dQ=y.dQ<;>by_cases au:x.dO=y.dO<;>by_cases AX:x.ev=true<;>by_cases AY:y.ev=true<;>simp [e1,au,AX,AY]
theorem H5 (eX:List aQ)(dL:List a2)(aq:eX.length≤6)(wu:dL.length≤8)(i:Int):
 r9 (ak (len_ aH eX-1)) dL (len_ aX dL) eX i =
 (lN dL eX dL (len_ aX dL) i).map (Sum.map id (Sum.map id fun _=>())):=by
 have hw:ak ((eX.length:Nat)-1)=(eX.length:Nat)-1:=cW (by omega) (by omega)
 unfold r9 lN qC
 simp only [cP,hw,zn,nZ,Option.bind_eq_bind,Option.bind_some]
 by_cases h1:i<(dL.length:Int)
 ·by_cases h0:0≤i
  ·obtain ⟨m,hm⟩ : ∃x,dL[i.toNat]? = some x:=⟨_,List.getElem?_eq_getElem (by omega)⟩
   simp only [h1,h0,hm,decide_true,if_true,and_self,Option.bind_some]
   unfold lQ
   by_cases hA:0≤m.c9∧m.c9≤(eX.length:Int)-1
   ·by_cases pL:0≤m.c7∧m.c7≤(eX.length:Int)-1
    ·by_cases fg:1≤m.el∧m.el≤3
     ·obtain ⟨x,J⟩ : ∃x,eX[m.c9.toNat]? = some x:=⟨_,List.getElem?_eq_getElem (by omega)⟩
      obtain ⟨y,aG⟩ : ∃y,eX[m.c7.toNat]? = some y:=⟨_,List.getElem?_eq_getElem (by omega)⟩
      have bS:0≤m.c9∧m.c9<eX.length:=by omega
      have dh:0≤m.c7∧m.c7<eX.length:=by omega
      have i6:0≤m.c9∧m.c9<eX.length∧0≤m.c7∧m.c7<eX.length∧1≤m.el∧m.el≤3:=by omega
      rw [decide_eq_true hA,decide_eq_true pL,decide_eq_true fg,decide_eq_true i6]
      simp only [if_true,Option.bind_some,Bool.true_and]
      rw [if_pos bS,J]
      simp only [Option.bind_some]
      rw [if_pos dh,aG]
      simp only [Option.bind_some]
      by_cases e1:x.dQ=y.dQ<;>by_cases au:x.dO=y.dO<;>by_cases AX:x.ev=true<;>by_cases AY:y.ev=true<;>simp [e1,au,AX,AY]
     ·have i6 : ¬(0≤m.c9∧m.c9<eX.length∧0≤m.c7∧m.c7<eX.length∧1≤m.el∧m.el≤3):=by omega
      rw [decide_eq_true hA,decide_eq_true pL,decide_eq_false fg,decide_eq_false i6]
      simp
    ·have i6 : ¬(0≤m.c9∧m.c9<eX.length∧0≤m.c7∧m.c7<eX.length∧1≤m.el∧m.el≤3):=by omega
     rw [decide_eq_true hA,decide_eq_false pL,decide_eq_false i6]
     simp
   ·have i6 : ¬(0≤m.c9∧m.c9<eX.length∧0≤m.c7∧m.c7<eX.length∧1≤m.el∧m.el≤3):=by omega
    rw [decide_eq_false hA,decide_eq_false i6]
    simp
  ·simp [h1,h0]
 ·simp [h1]
theorem BU (eX:List aQ)(dL:List a2)(wu:dL.length≤8): ∃r,r2 dL eX dL (len_ aX dL) 0=some r∧ ∀k,r = .inr k→0≤k:=by
 exact lk (f:=fun w=>lN dL eX dL (len_ aX dL) w) (fun i=>0≤i∧i≤dL.length) (fun i=>(dL.length-i).toNat) (fun r=> ∀k,r = .inr k→0≤k) (fun i an=>by
  obtain ⟨h0,h1⟩:=an
  by_cases I:i<(dL.length:Int)
  ·have hw:ak (i+1)=i+1:=cW (by omega) (by omega)
   obtain ⟨x,J⟩ : ∃x,dL[i.toNat]? = some x:=⟨_,List.getElem?_eq_getElem (by omega)⟩
   unfold lN qC
   simp only [cP,I,h0,hw,J,zn,decide_true,if_true,and_self,Option.bind_eq_bind,Option.bind_some]
   by_cases e:(!lQ eX x)=true
   ·exact .inr ⟨_,by rw [if_pos e],by intro k aR;simp at aR;omega⟩
   ·exact .inl ⟨i+1,by rw [if_neg e],by omega,by omega⟩
  ·exact .inr ⟨.inl (),by simp [lN,cP,I],by intro k aR;simp at aR⟩) 0 (by omega)
theorem B1 (s:bE)(i0:mh s): ∃r,nd s=some r∧qG s=some r:=by
 unfold nd qG
 by_cases h1:6<(s.a3.length:Int)
 ·exact ⟨false,by simp [cP,h1],by simp [cP,h1]⟩
 by_cases I:8<(s.a7.length:Int)
 ·exact ⟨false,by simp [cP,h1,I],by simp [cP,h1,I]⟩
 obtain ⟨r,ah⟩:=BZ s i0
 rw [B6,ah]
 obtain ⟨q,aE,pp⟩:=BU s.a3 s.a7 (by omega)
 have Nf:yz (ak (len_ aH s.a3-1)) s.a7 (len_ aX s.a7) s.a3 0=some (Sum.map id (fun _=>()) q) :=
  J1 (f:=fun w=>lN s.a7 s.a3 s.a7 (len_ aX s.a7) w) (Sum.map id fun _=>()) (fun _=>True) (fun _ _ _ _=>trivial)
   (fun i _=>H5 s.a3 s.a7 (by omega) (by omega) i) 0 q aE trivial
 simp only [r3,r5,aE,Nf,Option.bind_eq_bind,Option.bind_some]
 have d1:decide ((6:Int)<len_ aH s.a3)=false:=by rw [cP];exact decide_eq_false h1
 have d2:decide ((8:Int)<len_ aX s.a7)=false:=by rw [cP];exact decide_eq_false I
 rw [d1,d2]
 simp only [Bool.false_eq_true,if_false]
 cases r with
 | inr a=>exact ⟨false,rfl,rfl⟩
 | inl a =>
  cases q with
  | inl b=>exact ⟨true,rfl,by simp⟩
  | inr k =>
   have:=pp k rfl
   exact ⟨false,rfl,by simp [this]⟩
theorem H6 (j:aQ)(h:lg j=some true): -50≤j.dQ∧j.dQ≤50∧ -50≤j.dO∧j.dO≤50:=by
 unfold lg at h
 cases a5:nU j.eP with
 | none=>simp [a5] at h
 | some r =>
  simp only [a5,nZ,Option.bind_eq_bind,Option.bind_some] at h
  cases r with
  | false=>simp at h
  | true =>
   by_cases a : -50≤j.dQ∧j.dQ≤50
   ·by_cases b : -50≤j.dO∧j.dO≤50
    ·omega
    ·simp [a,b] at h
   ·simp [a] at h
theorem Jz (s:bE)(i0:mh s)(h:oE s.a3 (len_ aH s.a3) s.a7 0=some (.inl ())): ∀(n:Nat) j,s.a3[n]? = some j→lg j=some true:=by
 have hm:=nX
 obtain ⟨⟨eM,fR⟩,-⟩:=i0
 obtain ⟨r,h1,I⟩:=lk (f:=fun w=>mM s.a3 (len_ aH s.a3) s.a7 w) (fun i=>0≤i∧i≤s.a3.length∧ ∀(n:Nat) j,(n:Int)<i→s.a3[n]? = some j→lg j=some true) (fun i=>(s.a3.length-i).toNat)
  (fun r=>r = .inl ()→ ∀(n:Nat) j,s.a3[n]? = some j→lg j=some true) (fun i an=>by
  obtain ⟨h0,h1,aj⟩:=an
  by_cases I:i<(s.a3.length:Int)
  ·have hw:ak (i+1)=i+1:=cW (by omega) (by omega)
   obtain ⟨x,J⟩ : ∃x,s.a3[i.toNat]? = some x:=⟨_,List.getElem?_eq_getElem (by omega)⟩
   obtain ⟨p,ad⟩:=Ce x (fR x (List.mem_of_getElem? J)).1
   obtain ⟨q,aE⟩:=B5 ⟨s.a3,s.a7⟩ x.eP eM
   unfold mM
   simp only [cP,I,h0,hw,J,ad,aE,decide_true,if_true,and_self,Option.bind_eq_bind,Option.bind_some]
   by_cases e:p=true
   ·rw [if_pos e]
    by_cases au:(q != i)=true
    ·exact .inr ⟨_,by rw [if_pos au],by simp⟩
    ·refine .inl ⟨i+1,by rw [if_neg au],⟨by omega,by omega,fun n j a5 aq=> ?_⟩,by omega⟩
     by_cases c:(n:Int)<i
     ·exact aj n j c aq
     ·have:n=i.toNat:=by omega
      subst this
      rw [J] at aq
      obtain rfl:=Option.some.inj aq
      rw [ad,e]
   ·exact .inr ⟨_,by rw [if_neg e],by simp⟩
  ·refine .inr ⟨.inl (),by simp [mM,cP,I],fun _ n j aq=>aj n j (by have:=d8 aq;omega) aq⟩) 0 ⟨by omega,by omega,fun n j a5=>by omega⟩
 have l1:oE s.a3 (len_ aH s.a3) s.a7 0=some r:=h1
 rw [h] at l1
 exact I (Option.some.inj l1).symm
theorem Jf (eX:List aQ)(dL:List a2)(wu:dL.length≤8)(h:r2 dL eX dL (len_ aX dL) 0=some (.inl ())): ∀(n:Nat) m,dL[n]? = some m→lQ eX m=true:=by
 obtain ⟨r,h1,I⟩:=lk (f:=fun w=>lN dL eX dL (len_ aX dL) w) (fun i=>0≤i∧i≤dL.length∧ ∀(n:Nat) m,(n:Int)<i→dL[n]? = some m→lQ eX m=true) (fun i=>(dL.length-i).toNat)
  (fun r=>r = .inl ()→ ∀(n:Nat) m,dL[n]? = some m→lQ eX m=true) (fun i an=>by
  obtain ⟨h0,h1,aj⟩:=an
  by_cases I:i<(dL.length:Int)
  ·have hw:ak (i+1)=i+1:=cW (by omega) (by omega)
   obtain ⟨x,J⟩ : ∃x,dL[i.toNat]? = some x:=⟨_,List.getElem?_eq_getElem (by omega)⟩
   unfold lN qC
   simp only [cP,I,h0,hw,J,zn,decide_true,if_true,and_self,Option.bind_eq_bind,Option.bind_some]
   by_cases e:(!lQ eX x)=true
   ·exact .inr ⟨_,by rw [if_pos e],by simp⟩
   ·refine .inl ⟨i+1,by rw [if_neg e],⟨by omega,by omega,fun n j a5 aq=> ?_⟩,by omega⟩
    by_cases c:(n:Int)<i
    ·exact aj n j c aq
    ·have:n=i.toNat:=by omega
     subst this
     rw [J] at aq
     obtain rfl:=Option.some.inj aq
     simpa using e
  ·refine .inr ⟨.inl (),by simp [lN,cP,I],fun _ n j aq=>aj n j (by have:=d8 aq;omega) aq⟩) 0 ⟨by omega,by omega,fun n j a5=>by omega⟩
 have l1:r2 dL eX dL (len_ aX dL) 0=some r:=h1
 rw [h] at l1
 exact I (Option.some.inj l1).symm
theorem yT (s:bE)(i0:mh s)(h:nd s=some true):
 (∀(n:Nat) j,s.a3[n]? = some j→lg j=some true)∧(∀(n:Nat) m,s.a7[n]? = some m→lQ s.a3 m=true)∧s.a3.length≤6∧s.a7.length≤8:=by
 obtain ⟨p,p1,e5⟩:=B1 s i0
 rw [h] at p1
 obtain rfl:=Option.some.inj p1
 unfold qG at e5
 by_cases h1:6<(s.a3.length:Int)
 ·simp [cP,h1] at e5
 by_cases I:8<(s.a7.length:Int)
 ·simp [cP,h1,I] at e5
 obtain ⟨r,ah⟩:=BZ s i0
 rw [B6,ah] at e5
 obtain ⟨q,aE,pp⟩:=BU s.a3 s.a7 (by omega)
 have d1:decide ((6:Int)<len_ aH s.a3)=false:=by rw [cP];exact decide_eq_false h1
 have d2:decide ((8:Int)<len_ aX s.a7)=false:=by rw [cP];exact decide_eq_false I
 rw [d1,d2] at e5
 simp only [r3,r5,aE,Bool.false_eq_true,if_false,Option.bind_eq_bind,Option.bind_some] at e5
 cases r with
 | inr a=>simp at e5
 | inl a =>
  cases q with
  | inr k =>
   have:=pp k rfl
   simp [this] at e5
  | inl b=>exact ⟨Jz s i0 ah,Jf s.a3 s.a7 (by omega) aE,by omega,by omega⟩
def k0 (s:bE):Prop:=(∀(n:Nat) j,s.a3[n]? = some j→ -50≤j.dQ∧j.dQ≤50∧ -50≤j.dO∧j.dO≤50)∧(∀(n:Nat) m,s.a7[n]? = some m→lQ s.a3 m=true)∧s.a3.length≤6∧s.a7.length≤8
theorem B7 (s:bE)(i0:mh s)(h:nd s=some true):k0 s:=by
 obtain ⟨f1,f2,f3,f4⟩:=yT s i0 h
 exact ⟨fun n j aq=>H6 j (f1 n j aq),f2,f3,f4⟩
theorem KC (s:bE)(h:k0 s)(k:Int)(h0:0≤k)(h1:k<s.a7.length):
 ∃x y,mN s k=some (x,y)∧(-100≤x∧x≤100)∧(-100≤y∧y≤100):=by
 obtain ⟨f1,f2,f3,f4⟩:=h
 obtain ⟨m,hm⟩ : ∃x,s.a7[k.toNat]? = some x:=⟨_,List.getElem?_eq_getElem (by omega)⟩
 have pF:=f2 _ m hm
 unfold lQ at pF
 simp only [Bool.and_eq_true,decide_eq_true_eq] at pF
 obtain ⟨⟨g1,g2,g3,g4,-⟩,-⟩:=pF
 obtain ⟨a,bY⟩ : ∃x,s.a3[m.c9.toNat]? = some x:=⟨_,List.getElem?_eq_getElem (by omega)⟩
 obtain ⟨b,aM⟩ : ∃x,s.a3[m.c7.toNat]? = some x:=⟨_,List.getElem?_eq_getElem (by omega)⟩
 have NG:=f1 _ a bY
 have NH:=f1 _ b aM
 have e1:ak (b.dQ-a.dQ)=b.dQ-a.dQ:=cW (by omega) (by omega)
 have au:ak (b.dO-a.dO)=b.dO-a.dO:=cW (by omega) (by omega)
 have d6:0≤k∧k<s.a7.length:=⟨h0,h1⟩
 have bS:0≤m.c9∧m.c9<s.a3.length:=⟨g1,g2⟩
 have dh:0≤m.c7∧m.c7<s.a3.length:=⟨g3,g4⟩
 refine ⟨b.dQ-a.dQ,b.dO-a.dO,?_,by omega,by omega⟩
 unfold mN
 simp only [if_pos d6,hm,if_pos bS,if_pos dh,bY,aM,Option.bind_eq_bind,Option.bind_some,e1,au]
theorem KD (s:bE)(h:k0 s)(k:Int)(h0:0≤k)(h1:k<s.a7.length){v:Int×Int}(aN:mN s k=some v):su s k=some v:=by
 obtain ⟨f1,f2,f3,f4⟩:=h
 obtain ⟨m,hm⟩ : ∃x,s.a7[k.toNat]? = some x:=⟨_,List.getElem?_eq_getElem (by omega)⟩
 have pF:=f2 _ m hm
 unfold lQ at pF
 simp only [Bool.and_eq_true,decide_eq_true_eq] at pF
 obtain ⟨⟨g1,g2,g3,g4,-⟩,-⟩:=pF
 obtain ⟨a,bY⟩ : ∃x,s.a3[m.c9.toNat]? = some x:=⟨_,List.getElem?_eq_getElem (by omega)⟩
 obtain ⟨b,aM⟩ : ∃x,s.a3[m.c7.toNat]? = some x:=⟨_,List.getElem?_eq_getElem (by omega)⟩
 have NG:=f1 _ a bY
 have NH:=f1 _ b aM
 have e1:ak (b.dQ-a.dQ)=b.dQ-a.dQ:=cW (by omega) (by omega)
 have au:ak (b.dO-a.dO)=b.dO-a.dO:=cW (by omega) (by omega)
 have d6:0≤k∧k<s.a7.length:=⟨h0,h1⟩
 have bS:0≤m.c9∧m.c9<s.a3.length:=⟨g1,g2⟩
 have dh:0≤m.c7∧m.c7<s.a3.length:=⟨g3,g4⟩
 have Fk:mN s k=some (b.dQ-a.dQ,b.dO-a.dO):=by
  unfold mN
  simp only [if_pos d6,hm,if_pos bS,if_pos dh,bY,aM,Option.bind_eq_bind,Option.bind_some,e1,au]
 rw [aN] at Fk
 obtain rfl:=Option.some.inj Fk
 unfold su
 simp only [if_pos d6,hm,if_pos bS,if_pos dh,bY,aM,Option.bind_eq_bind,Option.bind_some,e1,au]
theorem JA (l:List Int)(av:l.length≤maxLen)(left:Int)(h0:0≤left)(h1:left≤1048576):sP l left=some (if left<l.length then -1 else left-l.length):=by
 have hm:=nX
 have hw:ak (left-((l.length:Nat):Int))=left-(l.length:Nat):=cW (by omega) (by omega)
 unfold sP
 rw [cP,hw]
 by_cases e:left<(l.length:Nat)
 ·have:left-(l.length:Nat)<0:=by omega
  simp [e,this]
 ·have : ¬left-(l.length:Nat)<0:=by omega
  simp [e,this]
theorem H7 (s:bE)(i0:mh s)(left:Int)(h0:0≤left)(h1:left≤1048576)(q:Int)(aE:oG s left=some q):q≤1048576:=by
 obtain ⟨⟨eM,fR⟩,dM,fS⟩:=i0
 obtain ⟨r,r1,bF,cv⟩:=Cc s.a3 left eM (fun j aq=>(fR j aq).1) h0 h1
 unfold oG at aE
 rw [r1] at aE
 by_cases h:r<0
 ·simp [h] at aE;omega
 ·obtain ⟨t,t1,t2,t3⟩:=B8 s.a7 r dM (by omega) (by omega)
  by_cases bO:t<0
  ·simp [h,t1,bO] at aE;omega
  ·simp [h,t1,bO] at aE;omega
def Fl (l:List Int)(n:Nat)(x:Int):Prop:=0≤x∧x<1000000000∧(∀z,l[n]? = some z→x=z)∧(l[n]? = none→x=0)
theorem Fl.take {l:List Int}{n:Nat}{x:Int}(h:Fl l n x):V (l.take (n+1))=V (l.take n)+B n*x:=Ke h.2.2.1 h.2.2.2
def lT (n:Int):Bool:=decide (-100≤n∧n≤100)
def km (pW:Nat)(l:List Int):Bool:=decide (l.length=2*pW) && l.all lT
theorem Jg (n:Int):sL n=some (lT n):=by
 unfold sL lT
 by_cases h : -100≤n<;>simp [h]
theorem JB (s:bE)(p:Bool)(ad:nd s=some p)(mL:p=true→s.a3.length≤6)(l:List Int)(av:l.length≤maxLen):sQ s l=some (p && km s.a3.length l):=by
 have hm:=nX
 unfold sQ
 simp only [ad,Option.bind_eq_bind,Option.bind_some,cP]
 cases p with
 | false=>rfl
 | true =>
  have mL:=mL rfl
  have hw:ak (2*((s.a3.length:Nat):Int))=2*((s.a3.length:Nat):Int):=cW (by omega) (by omega)
  rw [hw]
  unfold km
  by_cases e:l.length=2*s.a3.length
  ·have h1:y8 l (l.length:Nat) 0=some (if l.all lT then .inl () else .inr ()):=by
    refine vG (f:=fun w=>qz l (l.length:Nat) w) l lT (fun n x J=> ?_) ?_
    ·have cx:=d8 J
     unfold qz
     have c:(n:Int)<(l.length:Int):=by omega
     have cq:0≤(n:Int)∧(n:Int)<(l.length:Int):=by omega
     simp only [decide_eq_true c,if_true,if_pos cq,Int.toNat_natCast,J,Option.bind_eq_bind,Option.bind_some,nZ]
     rw [i1 (by omega)]
     unfold lT
     by_cases q : -100≤x∧x≤100
     ·simp [q]
     ·rw [decide_eq_false q];simp
    ·simp [qz]
   have c:((l.length:Int) != 2*(s.a3.length:Int))=false:=by simp;omega
   simp only [c,h1,Bool.false_eq_true,if_false,if_true,Option.bind_some]
   cases l.all lT<;>simp [e]
  ·have c:((l.length:Int) != 2*(s.a3.length:Int))=true:=by simp;omega
   simp only [c,if_true]
   simp [e]
theorem IV (s:bE)(mL:s.a3.length≤6)(l:List Int)(av:l.length≤maxLen):sB s l=some (km s.a3.length l):=by
 have hm:=nX
 have hw:ak (2*((s.a3.length:Nat):Int))=2*((s.a3.length:Nat):Int):=cW (by omega) (by omega)
 unfold sB uO uR km
 simp only [cP,hw,Option.bind_eq_bind]
 obtain ⟨r,h1,I⟩:=Jw (f:=fun w=>p5 l (l.length:Nat) w) l (fun n=> !lT n) (fun n x J=>by
  have cx:=d8 J
  unfold p5 u6
  have c:(n:Int)<(l.length:Int):=by omega
  have cq:0≤(n:Int)∧(n:Int)<(l.length:Int):=by omega
  simp only [decide_eq_true c,if_true,if_pos cq,Int.toNat_natCast,J,Option.bind_eq_bind,Option.bind_some,Jg]
  rw [i1 (by omega)]
  cases lT x<;>rfl) (by simp [p5])
 have l1:xq l (l.length:Nat) 0=some r:=h1
 rw [l1]
 have Me:(l.any fun n=> !lT n) = !l.all lT:=by
  rw [List.not_all_eq_any_not]
 rw [Me] at I
 by_cases e:l.length=2*s.a3.length
 ·have c:((l.length:Int) == 2*(s.a3.length:Int))=true:=by simp;omega
  rw [c]
  rcases I with ⟨k,rfl,aR,bY⟩|⟨rfl,bY⟩
  ·simp only [Bool.not_eq_true'] at bY
   simp [e,bY,aR]
  ·simp only [Bool.not_eq_false'] at bY
   simp [e,bY]
 ·have c:((l.length:Int) == 2*(s.a3.length:Int))=false:=by simp;omega
  rw [c]
  simp [e]
theorem jP {i:Int}{a:Nat}(h0:0≤i)(h1:i≤100)(bY:a≤1):ak (ak (2*i)+(a:Int))=(((2*i+a).toNat:Nat):Int):=by
 rw [cW (x:=2*i) (by omega) (by omega),cW (by omega) (by omega)]
 omega
theorem IW (l:List Int)(h:l.length≤1048576):sx l=some l:=by
 have aM : ∀(n:Nat) x (row:List Int),l[n]? = some x→row.length=l.length→oD l n row=some (.inl (((n+1:Nat):Int),row.set n x)):=by
  intro n x row J ah
  obtain ⟨a5,rfl⟩:=List.getElem?_eq_some_iff.1 J
  have hw:ak ((n:Int)+1)=((n+1:Nat):Int):=by rw [cW (by omega) (by omega)];rfl
  simp only [oD,cP,hw]
  simp [a5,ah]
 have he : ∀row:List Int,oD l l.length row=some (.inr row):=by
  intro row
  simp [oD,cP]
 have h1:yV l 0 (List.replicate (len_ eI l).toNat 0)=some l :=
  zw l (List.replicate (len_ eI l).toNat 0) (by simp [cP]) aM he
 unfold sx
 rw [h1,if_pos (by rw [cP];omega)]
 simp [cP]
theorem Ij (l:List aQ)(h:l.length≤1048576):sl l=some l:=by
 have aM : ∀(n:Nat) x (row:List aQ),l[n]? = some x→row.length=l.length→oB l n row=some (.inl (((n+1:Nat):Int),row.set n x)):=by
  intro n x row J ah
  obtain ⟨a5,rfl⟩:=List.getElem?_eq_some_iff.1 J
  have hw:ak ((n:Int)+1)=((n+1:Nat):Int):=by rw [cW (by omega) (by omega)];rfl
  simp only [oB,cP,hw,vf]
  simp [a5,ah]
 have he : ∀row:List aQ,oB l l.length row=some (.inr row):=by
  intro row
  simp [oB,cP]
 have h1:yJ l 0 (List.replicate (len_ aH l).toNat (⟨ByteArray.empty,0,0,false⟩:aQ))=some l :=
  zw l _ (by simp [cP]) aM he
 unfold sl
 rw [h1,if_pos (by rw [cP];omega)]
 simp [cP]
theorem H8 (l:List a2)(h:l.length≤1048576):sj l=some l:=by
 have aM : ∀(n:Nat) x (row:List a2),l[n]? = some x→row.length=l.length→oz l n row=some (.inl (((n+1:Nat):Int),row.set n x)):=by
  intro n x row J ah
  obtain ⟨a5,rfl⟩:=List.getElem?_eq_some_iff.1 J
  have hw:ak ((n:Int)+1)=((n+1:Nat):Int):=by rw [cW (by omega) (by omega)];rfl
  simp only [oz,cP,hw,vb]
  simp [a5,ah]
 have he : ∀row:List a2,oz l l.length row=some (.inr row):=by
  intro row
  simp [oz,cP]
 have h1:yx l 0 (List.replicate (len_ aX l).toNat (⟨0,0,0⟩:a2))=some l :=
  zw l _ (by simp [cP]) aM he
 unfold sj
 rw [h1,if_pos (by rw [cP];omega)]
 simp [cP]
theorem HF (s:bE)(h1:s.a3.length≤1048576)(I:s.a7.length≤1048576):se s=some (s.a3,s.a7):=by
 simp [se,Ij _ h1,H8 _ I]
def mF (P:List (List Int)):eJ→Prop
 | none=>True
 | some (k,c)=> ∃x,P[k]? = some x∧x.length=c∧c≤1048576
theorem mF.Ng {P:List (List Int)}{h:eJ}(dg:mF P h):py P h=true:=by
 cases h with
 | none=>rfl
 | some p =>
  obtain ⟨k,c⟩:=p
  obtain ⟨x,h1,I,-⟩:=dg
  have aR:=d8 h1
  have bd:P.getD k []=x:=by rw [List.getD_eq_getElem?_getD,h1];rfl
  simp only [py,bd,Bool.and_eq_true,decide_eq_true_eq]
  omega
theorem mF.set {P:List (List Int)}{k:Nat}{x y:List Int}(J:P[k]? = some x)(aG:y.length=x.length){h:eJ}(dg:mF P h):mF (P.set k y) h:=by
 cases h with
 | none=>trivial
 | some p =>
  obtain ⟨j,c⟩:=p
  obtain ⟨z,h1,I,aj⟩:=dg
  by_cases aq:k=j
  ·subst aq
   rw [J] at h1
   obtain rfl:=Option.some.inj h1
   exact ⟨y,by rw [List.getElem?_set,if_pos rfl,if_pos (d8 J)],by omega,aj⟩
  ·exact ⟨z,by rw [List.getElem?_set,if_neg aq];exact h1,I,aj⟩
theorem Ea (x:Int):(mZ [x]).size=1:=rfl
theorem Ik {k:Int}(h:k≤1000000000000000000): ∃r,sE k=some r:=by
 unfold sE
 by_cases c:k≤0
 ·exact ⟨_,by rw [if_pos (by simpa using c)]⟩
 ·rw [if_neg (by simpa using c)]
  obtain ⟨r,r1,bF⟩:=lk (f:=fun w:Int×ByteArray=>qp w.1 w.2) (dK:=fun w=>0≤w.1∧(w.2.size:Int)+w.1≤1000000000000000000) (m:=fun w=>w.1.toNat)
   (fun r=>(r.size:Int)≤1000000000000000000) (by
     rintro ⟨a,o⟩ ⟨h1,I⟩
     simp only at h1 I
     by_cases bY:0<a
     ·have bd:a.tdiv 10=a / 10:=by rw [Int.tdiv_eq_ediv_of_nonneg h1]
      refine .inl ⟨(a / 10,mZ [IntKind.wrap .u8 (ak ((48:Int)+(a.tmod (10:Int))))]++o),?_,⟨by simp only;omega,?_⟩,by simp only;omega⟩
      ·unfold qp
       simp only
       rw [if_pos (by simpa using bY),Ea,if_pos (by omega),bd,cW (by omega) (by omega)]
      ·simp only [ByteArray.size_append,Ea]
       omega
     ·exact .inr ⟨o,by simp [qp,bY],by omega⟩) (k,⟨#[]⟩) ⟨by simp only;omega,by
      have:(⟨#[]⟩:ByteArray).size=0:=rfl
      simp only [this];omega⟩
  unfold yY
  rw [r1]
  refine ⟨_,by
   simp only [Option.bind_eq_bind,Option.bind_some]
   rw [if_pos ?_]
   have:(⟨#[109]⟩:ByteArray).size=1:=rfl
   rw [this]
   omega⟩
theorem Hr {k:Int}{l:List aQ}(h0:0≤k)(h:k+4*l.length≤1000000000000000000):
 ∃b9 dl,si k l=some (b9,dl)∧dl.length=l.length∧0≤b9∧b9≤k+4*l.length:=by
 obtain ⟨r,r1,bF⟩:=lk (f:=fun w:Int×Int×(List aQ)=>oy w.1 w.2.1 w.2.2)
  (dK:=fun w=> ∃n:Nat,w.2.1=n∧n≤l.length∧w.2.2.length=l.length∧0≤w.1∧w.1≤k+4*n)
  (m:=fun w=>l.length-w.2.1.toNat) (fun r=>r.2.length=l.length∧0≤r.1∧r.1≤k+4*l.length) (by
    rintro ⟨a,i,row⟩ ⟨n,e1,au,bB,dk,gk⟩
    simp only at e1 bB dk gk
    subst e1
    by_cases a5:n=l.length
    ·subst a5
     refine .inr ⟨(a,row),by simp [oy,bB],bB,dk,gk⟩
    ·have l0:n<row.length:=by omega
     obtain ⟨t,bO⟩:=Ik (k:=a) (by omega)
     have hw:ak ((n:Int)+1)=((n+1:Nat):Int):=by rw [cW (by omega) (by omega)];rfl
     have lL:ak (a+1)=a+1:=cW (by omega) (by omega)
     have jP:ak (a+1+1)=a+1+1:=cW (by omega) (by omega)
     have nc:ak (a+1+1+1)=a+1+1+1:=cW (by omega) (by omega)
     have Fj:ak (a+1+1+1+1)=a+1+1+1+1:=cW (by omega) (by omega)
     have key : ∃cB,oy a n row=some (.inl (a+1+1+1+1,((n+1:Nat):Int),cB))∧cB.length=row.length:=by
      unfold oy
      rw [if_pos (by simpa using l0),bO,lL,jP,nc,Fj,hw]
      simp only [Option.bind_eq_bind,Option.bind_some,Nat.zero_add,Int.toNat_natCast]
      rw [if_pos (by omega),List.getElem?_eq_getElem l0]
      simp only [Option.bind_some,List.getElem?_set_self l0,List.length_set,List.getElem?_set_self (show n<(row.set n _).length by simpa using l0),List.set_set]
      exact ⟨_,rfl,by simp⟩
     obtain ⟨cB,h1,I⟩:=key
     refine .inl ⟨_,h1,⟨n+1,rfl,by omega,by simp only;omega,by simp only;omega,by simp only;omega⟩,by simp;omega⟩) (k,0,l) ⟨0,rfl,by omega,rfl,h0,by simp⟩
 obtain ⟨b9,dl⟩:=r
 exact ⟨b9,dl,by unfold si yu;rw [r1];rfl,bF⟩
theorem Hn {k:Int}{l:List a2}(h0:0≤k)(h:k+3*l.length≤1000000000000000000):
 ∃b9 dl,sf k l=some (b9,dl)∧dl.length=l.length∧0≤b9∧b9≤k+3*l.length:=by
 obtain ⟨r,r1,bF⟩:=lk (f:=fun w:Int×Int×(List a2)=>ow w.1 w.2.1 w.2.2)
  (dK:=fun w=> ∃n:Nat,w.2.1=n∧n≤l.length∧w.2.2.length=l.length∧0≤w.1∧w.1≤k+3*n)
  (m:=fun w=>l.length-w.2.1.toNat) (fun r=>r.2.length=l.length∧0≤r.1∧r.1≤k+3*l.length) (by
    rintro ⟨a,i,row⟩ ⟨n,e1,au,bB,dk,gk⟩
    simp only at e1 bB dk gk
    subst e1
    by_cases a5:n=l.length
    ·subst a5
     refine .inr ⟨(a,row),by simp [ow,bB],bB,dk,gk⟩
    ·have l0:n<row.length:=by omega
     have hw:ak ((n:Int)+1)=((n+1:Nat):Int):=by rw [cW (by omega) (by omega)];rfl
     have lL:ak (a+1)=a+1:=cW (by omega) (by omega)
     have jP:ak (a+1+1)=a+1+1:=cW (by omega) (by omega)
     have nc:ak (a+1+1+1)=a+1+1+1:=cW (by omega) (by omega)
     have key : ∃cB,ow a n row=some (.inl (a+1+1+1,((n+1:Nat):Int),cB))∧cB.length=row.length:=by
      unfold ow
      rw [if_pos (by simpa using l0),lL,jP,nc,hw]
      simp only [Nat.zero_add,Int.toNat_natCast]
      rw [if_pos (by omega),List.getElem?_eq_getElem l0]
      simp only [Option.bind_eq_bind,Option.bind_some,List.getElem?_set_self l0,List.length_set,List.getElem?_set_self (show n<(row.set n _).length by simpa using l0),List.set_set]
      exact ⟨_,rfl,by simp⟩
     obtain ⟨cB,h1,I⟩:=key
     refine .inl ⟨_,h1,⟨n+1,rfl,by omega,by simp only;omega,by simp only;omega,by simp only;omega⟩,by simp;omega⟩) (k,0,l) ⟨0,rfl,by omega,rfl,h0,by simp⟩
 obtain ⟨b9,dl⟩:=r
 exact ⟨b9,dl,by unfold sf yg;rw [r1];rfl,bF⟩
theorem G1 {k:Int}{l:List aQ}{m:List a2}(h0:0≤k)(h:k+4*l.length+3*m.length≤1000000000000000000):
 ∃b9 dl bG,qy k l m=some (b9,dl,bG)∧dl.length=l.length∧bG.length=m.length∧0≤b9∧b9≤k+4*l.length+3*m.length:=by
 obtain ⟨iH,dl,e1,au,bB,dk⟩:=Hr (l:=l) h0 (by omega)
 obtain ⟨hd,bG,f1,f2,f3,f4⟩:=Hn (k:=iH) (l:=m) bB (by omega)
 refine ⟨hd,dl,bG,?_,au,f2,f3,by omega⟩
 unfold qy
 rw [e1]
 simp only [Option.bind_eq_bind,Option.bind_some]
 rw [f1]
 first
  | rfl
  | (rw [if_pos au.symm];simp only [Option.bind_some];rw [if_pos f2.symm])
def marks (k:Int)(n:Nat):List Int:=(List.range n).map fun i:Nat=>k+(i:Int)
theorem lO (k:Int)(n:Nat):(marks k n).length=n:=by simp [marks]
theorem JC {k:Int}{n i:Nat}(h:i<n):(marks k n)[i]? = some (k+i):=by
 unfold marks
 rw [List.getElem?_map,List.getElem?_range h]
 rfl
theorem CK {k:Int}{l:List Int}{i:Nat}(h:i<l.length):(marks k i++l.drop i).set i (k+i)=marks k (i+1)++l.drop (i+1):=by
 unfold marks
 rw [List.range_succ,List.map_append,List.set_append_right _ _ (by simp)]
 rw [show i-(List.map (fun i:Nat=>k+(i:Int)) (List.range i)).length=0 by simp,List.drop_eq_getElem_cons h,List.set_cons_zero]
 simp
theorem Il {k:Int}{l:List Int}(h0:0≤k)(h:k+l.length≤1000000000000000000):oK k 0 l.length l=some (k+l.length,marks k l.length):=by
 have:=vF (f:=fun w:Int×Int×(List Int)=>qi 0 l.length w.1 w.2.1 w.2.2) (s:=fun n=>(k+(n:Int),(n:Int),marks k n++l.drop n)) (r:=(k+(l.length:Int),marks k l.length)) l.length 0 (fun i _ an=> ?_) ?_
 ·unfold oK yO
  have e:(k+((0:Nat):Int),((0:Nat):Int),marks k 0++l.drop 0)=(k,0,l):=by simp [marks]
  rw [e] at this
  rw [this]
  rfl
 ·have gW:i<l.length:=by omega
  unfold qi
  simp only
  rw [if_pos (by simpa using gW),if_pos (by omega),Nat.zero_add,Int.toNat_natCast,if_pos (by simp [lO];omega),CK gW,cW (by omega) (by omega),cW (by omega) (by omega)]
  simp only [Int.natCast_add,Int.add_assoc]
  rfl
 ·simp [qi]
theorem za {k:Int}{l:List Int}(h0:0≤k)(h:k+l.length≤1000000000000000000):oH k l=some (k+l.length,marks k l.length):=by
 have:=vF (f:=fun w:Int×Int×(List Int)=>p9 w.1 w.2.1 w.2.2) (s:=fun n=>(k+(n:Int),(n:Int),marks k n++l.drop n)) (r:=(k+(l.length:Int),marks k l.length)) l.length 0 (fun i _ an=> ?_) ?_
 ·unfold oH yH
  have e:(k+((0:Nat):Int),((0:Nat):Int),marks k 0++l.drop 0)=(k,0,l):=by simp [marks]
  rw [e] at this
  rw [this]
  rfl
 ·have gW:i<l.length:=by omega
  have av:(marks k i++l.drop i).length=l.length:=by simp [lO];omega
  unfold p9
  simp only [av]
  rw [if_pos (by simpa using gW),if_pos (by omega),Nat.zero_add,Int.toNat_natCast,if_pos (by omega),CK gW,cW (by omega) (by omega),cW (by omega) (by omega)]
  simp only [Int.natCast_add,Int.add_assoc]
  rfl
 ·simp [p9,lO]
theorem vg (k:Int):mP [] k=some k:=by
 have h:u2 [] k=some ():=by
  unfold u2
  rw [iter]
  simp [uV,cP]
 simp [mP,h]
theorem zb {k:Int}{n:Nat}(h0:0≤k)(h:k+n≤1000000000000000000):oM (marks k n) k=some (k+n):=by
 have:=vF (f:=fun w:Int×Int=>qq (marks k n) w.1 w.2) (s:=fun i=>(k+(i:Int),(i:Int))) (r:= .inl (k+(n:Int))) n 0 (fun i _ an=> ?_) ?_
 ·unfold oM yZ
  have e:(k+((0:Nat):Int),((0:Nat):Int))=(k,0):=by simp
  rw [e] at this
  rw [this]
  rfl
 ·have gW:i<n:=by omega
  unfold qq
  simp only [cP,lO]
  rw [if_pos (by simpa using gW),if_pos (by omega),Int.toNat_natCast,JC gW,cW (by omega) (by omega),cW (by omega) (by omega)]
  simp [Int.add_assoc]
 ·simp [qq,cP,lO]
theorem Lc {P:List (List Int)}{k:Int}{h:eJ}(dg:mF P h)(h0:0≤k)(aR:k≤500000000000000000):
 (h=none∧mP [] k=some k)∨ ∃j c x m,h=some (j,c)∧P[j]? = some x∧c≤1048576∧oK k 0 c x=some (k+(c:Int),m)∧ ∀bT,mF P bT→mF (P.set j m) bT:=by
 cases h with
 | none=>exact .inl ⟨rfl,vg k⟩
 | some p =>
  obtain ⟨j,c⟩:=p
  obtain ⟨x,h1,I,aj⟩:=dg
  subst I
  exact .inr ⟨j,x.length,x,_,rfl,h1,aj,Il h0 (by omega),fun bT Nh=>Nh.set h1 (lO _ _)⟩
def hD:List aQ→Nat→List Nat
 | [],_=>[]
 | x::l,n=>if x.ev then hD l (n+1) else n::hD l (n+1)
theorem zH : ∀(l:List aQ) (n i:Nat),i∈hD l n→n≤i∧i<n+l.length
 | [],n,i,h=>by simp [hD] at h
 | x::l,n,i,h=>by
  rw [hD] at h
  simp only [List.length_cons]
  split at h
  ·have:=zH l (n+1) i h;omega
  ·rcases List.mem_cons.1 h with h|h
   ·omega
   ·have:=zH l (n+1) i h;omega
theorem Dl : ∀(l:List aQ) (n:Nat),(hD l n).length≤l.length
 | [],n=>by simp [hD]
 | x::l,n=>by
  rw [hD]
  have:=Dl l (n+1)
  split<;>simp only [List.length_cons]<;>omega
theorem Jh {l:List aQ}{n:Nat}{x:aQ}(h:l[n]? = some x)(m:Nat):hD (l.drop n) m=if x.ev then hD (l.drop (n+1)) (m+1) else m::hD (l.drop (n+1)) (m+1):=by
 rw [Dh h,hD]
theorem C3 {f:Int×List Int→Option ((Int×List Int)⊕List Int)}(eX:List aQ)(mL:eX.length≤1000)
 (h : ∀(n:Nat) acc x,eX[n]? = some x→f ((n:Int),acc)=if x.ev=true then some (.inl (ak ((n:Int)+1),acc)) else if (acc++[(n:Int)]).length*8≤140737488355328 then some (.inl (ak ((n:Int)+1),acc++[(n:Int)])) else none)
 (he : ∀acc,f ((eX.length:Int),acc)=some (.inr acc)):iter f ((0:Int),[])=some ((hD eX 0).map (fun n:Nat=>(n:Int))):=by
 obtain ⟨s,h1,I⟩:=iL (fun (n:Nat) (acc:List Int)=>((n:Int),acc)) eX.length (fun n acc=>acc++(hD (eX.drop n) n).map (fun n:Nat=>(n:Int))=(hD eX 0).map (fun n:Nat=>(n:Int))∧acc.length≤n) (fun acc=>acc) (f:=f) (fun n a5 acc fK=>by
  obtain ⟨fK,av⟩:=fK
  have J:=List.getElem?_eq_getElem a5
  rw [Jh J] at fK
  rw [h n acc _ J,LM (by omega)]
  by_cases c:eX[n].ev=true
  ·rw [if_pos c] at fK ⊢
   exact ⟨_,rfl,fK,by omega⟩
  ·rw [if_neg c] at fK ⊢
   rw [if_pos (by simp only [List.length_append,List.length_cons,List.length_nil];omega)]
   refine ⟨_,rfl,?_,by simp only [List.length_append,List.length_cons,List.length_nil];omega⟩
   rw [List.append_assoc]
   exact fK) (fun acc _=>he acc) [] ⟨by rw [List.drop_zero];rfl,by simp⟩
 obtain ⟨I,-⟩:=I
 rw [List.drop_length] at I
 simp only [hD,List.map_nil,List.append_nil] at I
 subst I
 exact h1
theorem vn (s:bE)(mL:s.a3.length≤1000):nT s=some ((hD s.a3 0).map (fun n:Nat=>(n:Int))):=by
 unfold nT y3
 rw [cP,C3 s.a3 mL (fun n acc x J=>by
  have a5:=d8 J
  unfold sb
  exact hi (by omega) (cj (by omega) (b1 (gt rfl J) rfl))) (fun acc=>by
  unfold sb
  exact fr (by omega) rfl)]
 rfl
theorem ze (s:bE)(mL:s.a3.length≤1000):ox s=some ((hD s.a3 0).map (fun n:Nat=>(n:Int))):=by
 unfold ox xu
 rw [cP,C3 s.a3 mL (fun n acc x J=>by
  have a5:=d8 J
  unfold r4
  exact hi (by omega) (cj (by omega) (b1 (gt rfl J) rfl))) (fun acc=>by
  unfold r4
  exact fr (by omega) rfl)]
 rfl
theorem HG {k:Int}{bZ:List eJ}{P:List (List Int)}(dg:∀h∈bZ,mF P h)(h0:0≤k)(h:k+1048577*bZ.length≤400000000000000000): ∃b9 Bd,qI k bZ P=some (b9,Bd)∧0≤b9∧b9≤k+1048577*bZ.length:=by
 obtain ⟨⟨b9,Bd⟩,e,e1,au,-⟩:=iL (f:=fun w:Int×Int×List (List Int)=>oA bZ w.1 w.2.1 w.2.2) (fun (i:Nat) (q:Int×List (List Int))=>(q.1,(i:Int),q.2)) bZ.length (fun i q=>0≤q.1∧q.1≤k+1048577*i∧ ∀h∈bZ,mF q.2 h) (fun q=>q)
  (fun i an q fK=>by
    obtain ⟨eM,fR,dM⟩:=fK
    have J:=List.getElem?_eq_getElem an
    have aa:=dM _ (List.getElem_mem an)
    generalize bZ[i]=x at J aa
    simp only
    have base : ∀r,(x.elim (mP ([]:List Int) q.1 >>= fun aD=>some (.inl (aD,ak ((i:Int)+1),q.2))) fun jO=>q.2[jO.1]? >>= fun pV=>oK q.1 0 jO.2 pV >>= fun aV=>some (.inl (aV.1,ak ((i:Int)+1),q.2.set jO.1 aV.2)))=r→oA bZ q.1 (i:Int) q.2=r:=fun r ah=>by
     unfold oA
     exact hi (by omega) (cj (by omega) (b1 (x:=x) (by rw [Int.toNat_natCast,Nat.zero_add];exact J) ah))
    rcases Lc aa (k:=q.1) eM (by omega) with ⟨rfl,g1⟩|⟨j,c,y,m,rfl,g1,g2,g3,g4⟩
    ·refine ⟨(q.1,q.2),base _ (Ny rfl (b1 g1 (by rw [i1 (by omega)]))),eM,by simp only;omega,dM⟩
    ·refine ⟨(q.1+(c:Int),q.2.set j m),base _ (Nz rfl (b1 g1 (b1 g3 (by rw [i1 (by omega)])))),by simp only;omega,by simp only;omega,fun bT hm=>g4 bT (dM bT hm)⟩)
  (fun q _=>by simp only;unfold oA;exact fr (by omega) rfl) (k,P) ⟨h0,by simp,dg⟩
 exact ⟨b9,Bd,by unfold qI yG;exact b1 e rfl,e1,au⟩
theorem B9 (p:ix)(h1:p.c9.length≤1048576)(I:p.c7.length≤1048576)(aj:p.pS.length≤1048576):qK p p=some true:=by
 unfold qK
 exact kC (pz rfl) (kC (pz rfl) (b1 (vk _ h1) (hI rfl (b1 (vk _ I) (hI rfl (b1 (vk _ aj) (hI rfl rfl)))))))
theorem H9 {k a b:Int}{x y z:List Int}(h0:0≤k)(h:k+x.length+y.length+z.length≤1000000000000000000):sg k a b x y z=some (k+x.length+y.length+z.length,marks k x.length,marks (k+x.length) y.length,marks (k+x.length+y.length) z.length):=by
 unfold sg
 exact b1 (za h0 (by omega)) (cj (by simp only [lO]) (b1 (za (by simp only;omega) (by simp only;omega)) (cj (by simp only [lO]) (b1 (za (by simp only;omega) (by simp only;omega)) (cj (by simp only [lO]) rfl)))))
theorem Ca {k a b:Int}{x y z:Nat}(h0:0≤k)(h:k+x+y+z≤1000000000000000000):oI ⟨a,b,marks k x,marks (k+x) y,marks (k+x+y) z⟩ k=some (k+x+y+z):=by
 unfold oI
 exact b1 (zb h0 (by omega)) (fr (by omega) (b1 (zb (by omega) (by omega)) (fr (by omega) (b1 (zb (by omega) (by omega)) (fr (by omega) rfl)))))
theorem set_set {α:Type}(l:List α)(i:Nat)(x y:α):(l.set i x).set i y=l.set i y:=by
 rw [List.set_set]
theorem nk {α:Type}(n:Nat)(x:α):List.replicate n x=aU n fun _=>x:=by
 apply List.ext_getElem?
 intro i
 by_cases c:i<n
 ·rw [iN c];simp [c]
 ·rw [List.getElem?_eq_none_iff.2 (by simp;omega),List.getElem?_eq_none_iff.2 (by rw [dn];omega)]
def ob (k:Nat)(x:a2):List cG:=(if x.el=2 then [] else [⟨(k:Int),1⟩])++(if x.el=1 then [] else [⟨(k:Int),-1⟩])
def ij (dL:List a2):Nat→List cG
 | 0=>[]
 | n+1=>ij dL n++(match dL[n]? with
  | some x=>ob n x
  | none=>[])
theorem vI (dL:List a2): ∀n,(ij dL n).length≤2*n
 | 0=>by simp [ij]
 | n+1=>by
  have:=vI dL n
  rw [ij,List.length_append]
  have I:(match dL[n]? with
   | some x=>ob n x
   | none=>[]).length≤2:=by
   split
   ·rename_i x _;unfold ob;rw [List.length_append];split<;>split<;>simp
   ·simp
  omega
theorem Dm {dL:List a2}: ∀ {n:Nat} {c:cG},n≤dL.length→c∈ij dL n→ ∃k:Nat,c.jd=k∧k<n∧(c.lX=1∨c.lX = -1)
 | 0,c,_,h=>by simp [ij] at h
 | n+1,c,a5,h=>by
  rw [ij,List.mem_append] at h
  rcases h with h|h
  ·obtain ⟨k,h1,I,aj⟩:=Dm (by omega) h
   exact ⟨k,h1,by omega,aj⟩
  ·rw [List.getElem?_eq_getElem (by omega)] at h
   simp only [ob,List.mem_append] at h
   rcases h with h|h
   ·split at h
    ·simp at h
    ·simp at h;subst h;exact ⟨n,rfl,by omega,.inl rfl⟩
   ·split at h
    ·simp at h
    ·simp at h;subst h;exact ⟨n,rfl,by omega,.inr rfl⟩
theorem CL (s:bE)(cu:s.a7.length≤1000):qk s=some (ij s.a7 s.a7.length):=by
 unfold qk xx
 rw [cP]
 obtain ⟨x,e,-⟩:=iL (f:=fun w:Int×List cG=>p8 s.a7 (s.a7.length:Nat) w.1 w.2) (fun (n:Nat) (_:Unit)=>((n:Int),ij s.a7 n)) s.a7.length (fun _ _=>True) (fun _=>ij s.a7 s.a7.length)
  (fun n a5 _ _=>by
    refine ⟨(),?_,trivial⟩
    have J:=List.getElem?_eq_getElem a5
    have av:=vI s.a7 n
    have e1:ij s.a7 (n+1)=ij s.a7 n++ob n s.a7[n]:=by rw [ij,J]
    unfold p8
    refine hi (by simp only;omega) (cj (by simp only;omega) (b1 (x:=s.a7[n]) (by simp only;rw [Int.toNat_natCast];exact J) ?_))
    simp only
    rw [gU (by omega),e1]
    unfold ob
    by_cases bS:s.a7[n].el=2
    ·rw [if_pos bS]
     refine kC (pz bS) (hI (rO (by omega)) (cj (by simp only [List.length_append,List.length_cons,List.length_nil];omega) ?_))
     rw [if_neg (by omega)];simp
    ·rw [if_neg bS]
     refine hI (rO bS) (cj (by simp only [List.length_append,List.length_cons,List.length_nil];omega) ?_)
     by_cases dh:s.a7[n].el=1
     ·refine kC (pz dh) ?_
      rw [if_pos dh];simp
     ·refine hI (rO dh) (cj (by simp only [List.length_append,List.length_cons,List.length_nil];omega) ?_)
      rw [if_neg dh];simp)
  (fun _ _=>by unfold p8;exact fr (by simp) rfl) () trivial
 exact b1 e rfl
theorem Im (s:bE)(cu:s.a7.length≤1000):sm s=some ((ij s.a7 s.a7.length).map cG.jd,(ij s.a7 s.a7.length).map cG.lX):=by
 unfold sm yK
 rw [cP]
 obtain ⟨x,e,-⟩:=iL (f:=fun w:Int×List Int×List Int=>qb s.a7 (s.a7.length:Nat) w.1 w.2.1 w.2.2) (fun (n:Nat) (_:Unit)=>((n:Int),(ij s.a7 n).map cG.jd,(ij s.a7 n).map cG.lX)) s.a7.length (fun _ _=>True) (fun _=>((ij s.a7 s.a7.length).map cG.jd,(ij s.a7 s.a7.length).map cG.lX))
  (fun n a5 _ _=>by
    refine ⟨(),?_,trivial⟩
    have J:=List.getElem?_eq_getElem a5
    have av:=vI s.a7 n
    have e1:ij s.a7 (n+1)=ij s.a7 n++ob n s.a7[n]:=by rw [ij,J]
    unfold qb
    refine hi (by simp only;omega) (cj (by simp only;omega) (b1 (x:=s.a7[n]) (by simp only;rw [Int.toNat_natCast];exact J) ?_))
    simp only
    rw [gU (by omega),e1]
    unfold ob
    by_cases bS:s.a7[n].el=2
    ·rw [if_pos bS]
     refine kC (pz bS) (hI (rO (by omega)) (cj (by simp only [List.length_append,List.length_map,List.length_cons,List.length_nil];omega) (cj (by simp only [List.length_append,List.length_map,List.length_cons,List.length_nil];omega) ?_)))
     rw [if_neg (by omega)];simp
    ·rw [if_neg bS]
     refine hI (rO bS) (cj (by simp only [List.length_append,List.length_map,List.length_cons,List.length_nil];omega) (cj (by simp only [List.length_append,List.length_map,List.length_cons,List.length_nil];omega) ?_))
     by_cases dh:s.a7[n].el=1
     ·refine kC (pz dh) ?_
      rw [if_pos dh];simp
     ·refine hI (rO dh) (cj (by simp only [List.length_append,List.length_map,List.length_cons,List.length_nil];omega) (cj (by simp only [List.length_append,List.length_map,List.length_cons,List.length_nil];omega) ?_))
      rw [if_neg dh];simp)
  (fun _ _=>by unfold qb;exact fr (by simp) rfl) () trivial
 exact b1 e rfl
theorem zM {α:Type}(a b:Nat)(f:Nat→α):aU (a+b) f=aU a f++aU b (fun j=>f (a+j)):=by
 induction b with
 | zero=>simp [aU]
 | succ b ih=>rw [← Nat.add_assoc,ll,ih,ll,List.append_assoc]
def iQ (s:bE)(k:Nat):Int×Int:=(mN s k).getD (0,0)
theorem zI (s:bE)(h:k0 s)(k:Nat)(aR:k<s.a7.length):mN s k=some (iQ s k)∧(-100≤(iQ s k).1∧(iQ s k).1≤100)∧(-100≤(iQ s k).2∧(iQ s k).2≤100):=by
 obtain ⟨x,y,h1,aj,aB⟩:=KC s h k (by omega) (by omega)
 have e:iQ s k=(x,y):=by unfold iQ;rw [h1];rfl
 rw [e];exact ⟨h1,aj,aB⟩
def fB (s:bE)(j:Int)(db k:Nat):Int :=
 match s.a7[k]? with
 | none=>0
 | some x=>if j=x.c9 then (if db=0 then (iQ s k).1 else (iQ s k).2) else if j=x.c7 then -(if db=0 then (iQ s k).1 else (iQ s k).2) else 0
theorem Ld (s:bE)(h:k0 s)(j:Int)(db k:Nat): -100≤fB s j db k∧fB s j db k≤100:=by
 unfold fB
 split
 ·omega
 ·rename_i x J
  obtain ⟨-,aj,aB⟩:=zI s h k (d8 J)
  split
  ·split<;>omega
  ·split
   ·split<;>omega
   ·omega
theorem KE (s:bE)(h:k0 s)(j:Int)(q1:List Int)(bu cr:Int)(dr:List Int):
 u5 j q1 bu cr s.a7 (len_ aX s.a7) s.a3 dr 0 ([]:List Int) ([]:List Int)=some (aU s.a7.length (fB s j 0),aU s.a7.length (fB s j 1)):=by
 obtain ⟨-,-,f3,f4⟩:=id h
 unfold u5
 rw [cP]
 obtain ⟨x,e,-⟩:=iL (f:=fun w:Int×List Int×List Int=>qu j q1 bu cr s.a7 (s.a7.length:Nat) s.a3 dr w.1 w.2.1 w.2.2) (fun (n:Nat) (_:Unit)=>((n:Int),aU n (fB s j 0),aU n (fB s j 1))) s.a7.length (fun _ _=>True) (fun _=>(aU s.a7.length (fB s j 0),aU s.a7.length (fB s j 1)))
  (fun n a5 _ _=>by
    refine ⟨(),?_,trivial⟩
    have J:=List.getElem?_eq_getElem a5
    obtain ⟨v1,v3,v4⟩:=zI s h n a5
    have v2:=KD s h n (by omega) (by omega) v1
    unfold qu
    refine hi (by simp only;omega) (cj (by simp only;omega) (b1 (x:=s.a7[n]) (by simp only;rw [Int.toNat_natCast];exact J) (b1 (x:=iQ s n) v2 ?_)))
    simp only
    rw [gU (by omega),ll,ll]
    have g : ∀(F:Nat→Int) (v:Int),(aU n F++[v]).length*8≤140737488355328:=fun F v=>by simp only [List.length_append,dn,List.length_cons,List.length_nil];omega
    by_cases bS:j=s.a7[n].c9
    ·have e0 : ∀db,fB s j db n=if db=0 then (iQ s n).1 else (iQ s n).2:=fun db=>by unfold fB;rw [J];simp only [if_pos bS]
     refine hI (wO bS) (cj (g _ _) (cj (g _ _) ?_))
     rw [e0,e0];rfl
    ·refine kC (wP bS) ?_
     by_cases dh:j=s.a7[n].c7
     ·have e0 : ∀db,fB s j db n = -(if db=0 then (iQ s n).1 else (iQ s n).2):=fun db=>by unfold fB;rw [J];simp only [if_neg bS,if_pos dh]
      refine hI (wO dh) (cj (g _ _) (cj (g _ _) ?_))
      rw [e0,e0,cW (by omega) (by omega),cW (by omega) (by omega)]
      simp
     ·have e0 : ∀db,fB s j db n=0:=fun db=>by unfold fB;rw [J];simp only [if_neg bS,if_neg dh]
      refine kC (wP dh) (cj (g _ _) (cj (g _ _) ?_))
      rw [e0,e0])
  (fun _ _=>by unfold qu;exact fr (by simp) rfl) () trivial
 exact e
theorem KF (s:bE)(h:k0 s)(j:Int)(q1:List Int)(bu cr:Int)(dr:List (List Int)):
 uQ s.a3 s.a7 j q1 bu cr (len_ aX s.a7) dr 0 (aU s.a7.length fun _=>(0:Int)) (aU s.a7.length fun _=>(0:Int))=some (aU s.a7.length (fB s j 0),aU s.a7.length (fB s j 1)):=by
 obtain ⟨-,-,f3,f4⟩:=id h
 unfold uQ
 rw [cP]
 obtain ⟨x,e,-⟩:=iL (f:=fun w:Int×List Int×List Int=>p6 s.a3 s.a7 j q1 bu cr (s.a7.length:Nat) dr w.1 w.2.1 w.2.2) (fun (n:Nat) (_:Unit)=>((n:Int),(aU s.a7.length fun k=>if k<n then fB s j 0 k else 0),aU s.a7.length fun k=>if k<n then fB s j 1 k else 0)) s.a7.length (fun _ _=>True) (fun _=>(aU s.a7.length (fB s j 0),aU s.a7.length (fB s j 1)))
  (fun n a5 _ _=>by
    refine ⟨(),?_,trivial⟩
    have J:=List.getElem?_eq_getElem a5
    obtain ⟨v1,v3,v4⟩:=zI s h n a5
    have ct : ∀db v,v=fB s j db n→(aU s.a7.length fun k=>if k<n then fB s j db k else 0).set n v=aU s.a7.length fun k=>if k<n+1 then fB s j db k else 0:=fun db v aN=>by
     rw [q6]
     refine gK fun k _=> ?_
     by_cases c:k=n
     ·subst c;rw [if_pos rfl,if_pos (by omega)];exact aN
     ·rw [if_neg c]
      by_cases dh:k<n
      ·rw [if_pos dh,if_pos (by omega)]
      ·rw [if_neg dh,if_neg (by omega)]
    have g1 : ∀F:Nat→Int,0≤((n:Nat):Int)∧((n:Nat):Int)<((aU s.a7.length F).length:Nat):=fun F=>by rw [dn];omega
    have g2 : ∀F:Nat→Int,0+((n:Nat):Int).toNat<(aU s.a7.length F).length:=fun F=>by rw [dn,Int.toNat_natCast];omega
    unfold p6
    refine hi (by simp only;omega) (cj (by simp only;omega) (b1 (x:=s.a7[n]) (by simp only;rw [Int.toNat_natCast];exact J) (b1 (x:=iQ s n) v1 ?_)))
    simp only
    by_cases bS:j=s.a7[n].c9
    ·have e0 : ∀db,fB s j db n=if db=0 then (iQ s n).1 else (iQ s n).2:=fun db=>by unfold fB;rw [J];simp only [if_pos bS]
     refine hI (wO bS) (cj (g1 _) (cj (g2 _) (cj (g1 _) (cj (g2 _) ?_))))
     rw [gU (by omega),Int.toNat_natCast,Nat.zero_add,ct 0 _ (by rw [e0];rfl),ct 1 _ (by rw [e0];rfl)]
    ·refine kC (wP bS) ?_
     by_cases dh:j=s.a7[n].c7
     ·have e0 : ∀db,fB s j db n = -(if db=0 then (iQ s n).1 else (iQ s n).2):=fun db=>by unfold fB;rw [J];simp only [if_neg bS,if_pos dh]
      refine hI (wO dh) (cj (g1 _) (cj (g2 _) (cj (g1 _) (cj (g2 _) ?_))))
      rw [gU (by omega),Int.toNat_natCast,Nat.zero_add,cW (by omega) (by omega),cW (by omega) (by omega),ct 0 _ (by rw [e0];simp),ct 1 _ (by rw [e0];simp)]
     ·have e0 : ∀db,fB s j db n=0:=fun db=>by unfold fB;rw [J];simp only [if_neg bS,if_neg dh]
      refine kC (wP dh) ?_
      rw [gU (by omega)]
      congr 4
      ·refine gK fun k _=> ?_
       by_cases c:k=n
       ·subst c;rw [if_neg (by omega),if_pos (by omega),e0]
       ·by_cases dh:k<n
        ·rw [if_pos dh,if_pos (by omega)]
        ·rw [if_neg dh,if_neg (by omega)]
      ·refine gK fun k _=> ?_
       by_cases c:k=n
       ·subst c;rw [if_neg (by omega),if_pos (by omega),e0]
       ·by_cases dh:k<n
        ·rw [if_pos dh,if_pos (by omega)]
        ·rw [if_neg dh,if_neg (by omega)])
  (fun _ _=>by
    unfold p6
    refine fr (by simp) ?_
    simp only
    congr 3
    ·exact gK fun k aR=>by rw [if_pos aR]
    ·exact gK fun k aR=>by rw [if_pos aR]) () trivial
 have z : ∀db,(aU s.a7.length fun k=>if k<0 then fB s j db k else 0)=aU s.a7.length fun _=>(0:Int):=fun db=>gK fun k _=>by rw [if_neg (by omega)]
 rw [z,z] at e
 exact e
def dA (s:bE)(q:Nat):Nat:=(hD s.a3 0).getD q 0
def bW (s:bE):Nat:=(hD s.a3 0).length
def hc (s:bE)(r k:Nat):Int:=fB s (dA s (r / 2)) (r % 2) k
theorem o3 (s:bE):(hD s.a3 0).map (fun n:Nat=>(n:Int))=aU (bW s) fun q=>((dA s q:Nat):Int):=by
 apply List.ext_getElem?
 intro q
 rw [List.getElem?_map]
 by_cases c:q<bW s
 ·rw [iN c]
  have h:(hD s.a3 0)[q]? = some (hD s.a3 0)[q]:=List.getElem?_eq_getElem c
  unfold dA
  rw [List.getD_eq_getElem?_getD,h];rfl
 ·rw [List.getElem?_eq_none_iff.2 (by unfold bW at c;omega),List.getElem?_eq_none_iff.2 (by rw [dn];omega)];rfl
theorem tr (s:bE){q:Nat}(h:q<bW s):dA s q<s.a3.length:=by
 have h1:(hD s.a3 0)[q]? = some (hD s.a3 0)[q]:=List.getElem?_eq_getElem h
 have I:dA s q=(hD s.a3 0)[q]:=by unfold dA;rw [List.getD_eq_getElem?_getD,h1];rfl
 have:=zH s.a3 0 _ (List.mem_of_getElem? h1)
 omega
theorem nA (s:bE):bW s≤s.a3.length:=Dl s.a3 0
theorem tf {α:Type}(r n:Nat)(e:Nat→Nat→α):(aU (r*n) fun x=>e (x / n) (x % n))++aU n (e r)=aU ((r+1)*n) fun x=>e (x / n) (x % n):=by
 rw [Nat.succ_mul,zM]
 congr 1
 refine gK fun j aq=> ?_
 have h1:(r*n+j) / n=r:=by rw [Nat.mul_comm,Nat.mul_add_div (by omega),Nat.div_eq_of_lt aq];rfl
 have I:(r*n+j) % n=j:=by rw [Nat.mul_comm,Nat.mul_add_mod,Nat.mod_eq_of_lt aq]
 rw [h1,I]
theorem Ji (s:bE)(h:k0 s):sI s=some (aU (2*bW s*s.a7.length) fun x=>hc s (x / s.a7.length) (x % s.a7.length)):=by
 obtain ⟨-,-,f3,f4⟩:=id h
 have nQ:=nA s
 unfold sI
 refine b1 (vn s (by omega)) ?_
 rw [o3,nn,dn]
 unfold y4
 obtain ⟨x,e,-⟩:=iL (f:=fun w:Int×List Int=>qv (aU (bW s) fun q=>((dA s q:Nat):Int)) ((bW s:Nat):Int) s.a3 s.a7 w.1 w.2) (fun (n:Nat) (_:Unit)=>((n:Int),aU (2*n*s.a7.length) fun x=>hc s (x / s.a7.length) (x % s.a7.length))) (bW s) (fun _ _=>True) (fun _=>aU (2*bW s*s.a7.length) fun x=>hc s (x / s.a7.length) (x % s.a7.length))
  (fun n a5 _ _=>by
    refine ⟨(),?_,trivial⟩
    have aM:2*n*s.a7.length≤12*8:=Nat.mul_le_mul (by omega) f4
    unfold qv
    refine hi (by simp only;omega) (cj (by rw [dn];simp only;omega) (b1 (x:=((dA s n:Nat):Int)) (by simp only;rw [Int.toNat_natCast];exact iN a5) (b1 (KE s h _ _ _ _ _) ?_)))
    refine cj (by simp only [List.length_append,dn];omega) (cj (by simp only [List.length_append,dn];omega) ?_)
    simp only
    rw [gU (by omega)]
    have r1:aU s.a7.length (fB s (dA s n) 0)=aU s.a7.length (hc s (2*n)):=gK fun k _=>by
     unfold hc;rw [show 2*n / 2=n by omega,show 2*n % 2=0 by omega]
    have bF:aU s.a7.length (fB s (dA s n) 1)=aU s.a7.length (hc s (2*n+1)):=gK fun k _=>by
     unfold hc;rw [show (2*n+1) / 2=n by omega,show (2*n+1) % 2=1 by omega]
    rw [r1,bF,tf (2*n),tf (2*n+1),show 2*n+1+1=2*(n+1) by omega])
  (fun _ _=>by unfold qv;exact fr (by simp) rfl) () trivial
 have z:(aU (2*0*s.a7.length) fun x=>hc s (x / s.a7.length) (x % s.a7.length))=[]:=by simp [aU]
 rw [z] at e
 exact b1 e rfl
theorem Ia (s:bE)(h:k0 s):r8 s=some (aU (2*bW s) fun r=>aU s.a7.length (hc s r)):=by
 obtain ⟨-,-,f3,f4⟩:=id h
 have nQ:=nA s
 unfold r8
 refine b1 (ze s (by omega)) ?_
 rw [o3,nn,dn]
 unfold xt
 obtain ⟨x,e,-⟩:=iL (f:=fun w:Int×List (List Int)=>p7 s.a3 s.a7 (aU (bW s) fun q=>((dA s q:Nat):Int)) ((bW s:Nat):Int) w.1 w.2) (fun (n:Nat) (_:Unit)=>((n:Int),aU (2*n) fun r=>aU s.a7.length (hc s r))) (bW s) (fun _ _=>True) (fun _=>aU (2*bW s) fun r=>aU s.a7.length (hc s r))
  (fun n a5 _ _=>by
    refine ⟨(),?_,trivial⟩
    unfold p7
    refine hi (by simp only;omega) (cj (by rw [dn];simp only;omega) (b1 (x:=((dA s n:Nat):Int)) (by simp only;rw [Int.toNat_natCast];exact iN a5) (cj (by rw [cP];omega) ?_)))
    refine b1 (x:=(aU s.a7.length (fB s (dA s n) 0),aU s.a7.length (fB s (dA s n) 1))) (by rw [show (len_ aX s.a7).toNat=s.a7.length by rw [cP,Int.toNat_natCast],nk];exact KF s h _ _ _ _ _) (cj (by simp only [List.length_append,dn,List.length_cons,List.length_nil];omega) ?_)
    simp only
    rw [gU (by omega),show 2*(n+1)=2*n+1+1 by omega,ll (2*n+1),ll (2*n)]
    have r1:aU s.a7.length (fB s (dA s n) 0)=aU s.a7.length (hc s (2*n)):=gK fun k _=>by
     unfold hc;rw [show 2*n / 2=n by omega,show 2*n % 2=0 by omega]
    have bF:aU s.a7.length (fB s (dA s n) 1)=aU s.a7.length (hc s (2*n+1)):=gK fun k _=>by
     unfold hc;rw [show (2*n+1) / 2=n by omega,show (2*n+1) % 2=1 by omega]
    rw [r1,bF];simp)
  (fun _ _=>by unfold p7;exact fr (by simp) rfl) () trivial
 exact b1 e rfl
def gV (s:bE):List cG:=ij s.a7 s.a7.length
def bm (s:bE):Nat:=(gV s).length
def ja (s:bE)(c:Nat):Nat:=((gV s).getD c ⟨0,0⟩).jd.toNat
def lM (s:bE)(c:Nat):Int:=((gV s).getD c ⟨0,0⟩).lX
def g6 (s:bE)(i c:Nat):Int:=lM s c*hc s i (ja s c)
def ju (s:bE)(l:List Int)(i:Nat):Int:= -(l.getD (2*dA s (i / 2)+i % 2) 0)
theorem ts (s:bE){c:Nat}(aF:c<bm s):(gV s)[c]? = some ⟨(ja s c:Int),lM s c⟩∧ja s c<s.a7.length∧(lM s c=1∨lM s c = -1):=by
 have h1:(gV s)[c]? = some (gV s)[c]:=List.getElem?_eq_getElem aF
 have I:(gV s).getD c ⟨0,0⟩=(gV s)[c]:=by rw [List.getD_eq_getElem?_getD,h1];rfl
 obtain ⟨k,e1,au,bB⟩:=Dm (Nat.le_refl _) (List.mem_of_getElem? h1)
 have dk:ja s c=k:=by unfold ja;rw [I,e1];rfl
 have gk:lM s c=((gV s)[c]).lX:=by unfold lM;rw [I]
 refine ⟨?_,by omega,by rw [gk];exact bB⟩
 rw [h1,dk,gk,← e1]
theorem rk (s:bE):bm s≤2*s.a7.length:=vI _ _
theorem KG (s:bE):(gV s).map cG.jd=aU (bm s) fun c=>((ja s c:Nat):Int):=by
 apply List.ext_getElem?
 intro c
 rw [List.getElem?_map]
 by_cases h:c<bm s
 ·rw [(ts s h).1,iN h];rfl
 ·rw [List.getElem?_eq_none_iff.2 (by unfold bm at h;omega),List.getElem?_eq_none_iff.2 (by rw [dn];omega)];rfl
theorem KH (s:bE):(gV s).map cG.lX=aU (bm s) (lM s):=by
 apply List.ext_getElem?
 intro c
 rw [List.getElem?_map]
 by_cases h:c<bm s
 ·rw [(ts s h).1,iN h];rfl
 ·rw [List.getElem?_eq_none_iff.2 (by unfold bm at h;omega),List.getElem?_eq_none_iff.2 (by rw [dn];omega)];rfl
theorem Eb (s:bE)(h:k0 s)(i:Nat){c:Nat}(aF:c<bm s): -100≤g6 s i c∧g6 s i c≤100:=by
 have h1:=Ld s h (dA s (i / 2)) (i % 2) (ja s c)
 unfold g6 hc
 rcases (ts s aF).2.2 with e|e<;>rw [e]<;>omega
theorem Kf (s:bE)(h:k0 s)(l:List Int)(av:l.length=2*s.a3.length)(aM:∀x∈l,-100≤x∧x≤100):sy s l=some (aU (2*bW s) (ju s l)):=by
 obtain ⟨-,-,f3,f4⟩:=id h
 have nQ:=nA s
 unfold sy
 refine b1 (vn s (by omega)) ?_
 rw [o3,nn,dn]
 unfold yW
 obtain ⟨x,e,-⟩:=iL (f:=fun w:Int×List Int=>qn l (aU (bW s) fun q=>((dA s q:Nat):Int)) ((bW s:Nat):Int) w.1 w.2) (fun (n:Nat) (_:Unit)=>((n:Int),aU (2*n) (ju s l))) (bW s) (fun _ _=>True) (fun _=>aU (2*bW s) (ju s l))
  (fun n a5 _ _=>by
    refine ⟨(),?_,trivial⟩
    have bp:=tr s a5
    have jP:ak ((2:Int)*((dA s n:Nat):Int))=((2*dA s n:Nat):Int):=by rw [cW (by omega) (by omega)];omega
    have nc:ak (((2*dA s n:Nat):Int)+1)=((2*dA s n+1:Nat):Int):=gU (by omega)
    have x1:=aM l[2*dA s n] (List.getElem_mem (by omega))
    have ep:=aM l[2*dA s n+1] (List.getElem_mem (by omega))
    have p1:ju s l (2*n) = -l[2*dA s n]:=by
     unfold ju
     rw [show 2*n / 2=n by omega,show 2*n % 2=0 by omega,Nat.add_zero,List.getD_eq_getElem?_getD,List.getElem?_eq_getElem (by omega)];rfl
    have e5:ju s l (2*n+1) = -l[2*dA s n+1]:=by
     unfold ju
     rw [show (2*n+1) / 2=n by omega,show (2*n+1) % 2=1 by omega,List.getD_eq_getElem?_getD,List.getElem?_eq_getElem (by omega)];rfl
    unfold qn
    refine hi (by simp only;omega) (cj (by rw [dn];simp only;omega) (b1 (x:=((dA s n:Nat):Int)) (by simp only;rw [Int.toNat_natCast];exact iN a5) ?_))
    rw [jP,nc]
    refine cj (by omega) (b1 (x:=l[2*dA s n]) (by rw [Int.toNat_natCast];exact List.getElem?_eq_getElem (by omega)) (cj (by omega) (b1 (x:=l[2*dA s n+1]) (by rw [Int.toNat_natCast];exact List.getElem?_eq_getElem (by omega)) (cj (by simp only [List.length_append,dn,List.length_cons,List.length_nil];omega) ?_))))
    simp only
    rw [gU (by omega),cW (by omega) (by omega),cW (by omega) (by omega),show 2*(n+1)=2*n+1+1 by omega,ll (2*n+1),ll (2*n),p1,e5]
    simp)
  (fun _ _=>by unfold qn;exact fr (by simp) rfl) () trivial
 exact b1 e rfl
def Fm (s:bE)(l:List Int):ix:=⟨((2*bW s:Nat):Int),(bm s:Int),aU (2*bW s*bm s) (fun x=>g6 s (x / bm s) (x % bm s)),aU (2*bW s) (ju s l),aU (bm s) fun _=>0⟩
theorem Io (s:bE)(h:k0 s)(l:List Int)(av:l.length=2*s.a3.length)(aM:∀x∈l,-100≤x∧x≤100):sn s l=some (Fm s l):=by
 obtain ⟨-,-,f3,f4⟩:=id h
 have nQ:=nA s
 have uG:=rk s
 unfold sn
 refine b1 (Im s (by omega)) (b1 (Ji s h) (b1 (vn s (by omega)) (b1 (Kf s h l av aM) ?_)))
 show (if 0≤len_ eI ((gV s).map cG.jd)∧_ then _ else none)=_
 rw [o3]
 show (if 0≤len_ eI ((gV s).map cG.jd)∧(8:Int)*len_ eI ((gV s).map cG.jd)≤281474976710656∧len_ eI ((gV s).map cG.jd)<9223372036854775808 then
  uY ((gV s).map cG.jd) ((gV s).map cG.lX) (len_ aX s.a7) _ (ak ((2:Int)*len_ eI (aU (bW s) fun q=>((dA s q:Nat):Int)))) (len_ eI ((gV s).map cG.jd)) (aU (2*bW s) (ju s l)) (List.replicate (len_ eI ((gV s).map cG.jd)).toNat 0) 0 [] >>= fun j8=>some (⟨ak ((2:Int)*len_ eI (aU (bW s) fun q=>((dA s q:Nat):Int))),len_ eI ((gV s).map cG.jd),j8,aU (2*bW s) (ju s l),List.replicate (len_ eI ((gV s).map cG.jd)).toNat 0⟩:ix) else none)=_
 rw [KG,KH,nn,dn,nn,dn,Int.toNat_natCast,cP,show ak ((2:Int)*(bW s:Nat))=((2*bW s:Nat):Int) by rw [cW (by omega) (by omega)];omega,nk]
 refine cj (by omega) (b1 (x:=aU (2*bW s*bm s) (fun x=>g6 s (x / bm s) (x % bm s))) ?_ rfl)
 unfold uY
 obtain ⟨x,e,-⟩:=iL (f:=fun w:Int×List Int=>qd (aU (bm s) fun c=>((ja s c:Nat):Int)) (aU (bm s) (lM s)) (s.a7.length:Nat) (aU (2*bW s*s.a7.length) fun x=>hc s (x / s.a7.length) (x % s.a7.length)) ((2*bW s:Nat):Int) ((bm s:Nat):Int) (aU (2*bW s) (ju s l)) (aU (bm s) fun _=>0) w.1 w.2) (fun (i:Nat) (_:Unit)=>((i:Int),aU (i*bm s) (fun x=>g6 s (x / bm s) (x % bm s)))) (2*bW s) (fun _ _=>True) (fun _=>aU (2*bW s*bm s) (fun x=>g6 s (x / bm s) (x % bm s)))
  (fun i an _ _=>by
    refine ⟨(),?_,trivial⟩
    have Ps:i*bm s≤12*16:=Nat.mul_le_mul (by omega) (by omega)
    have jD:i*s.a7.length≤12*8:=Nat.mul_le_mul (by omega) f4
    obtain ⟨y,au,-⟩:=iL (f:=fun w:Int×List Int=>qc (aU (bm s) fun c=>((ja s c:Nat):Int)) (aU (bm s) (lM s)) (s.a7.length:Nat) (aU (2*bW s*s.a7.length) fun x=>hc s (x / s.a7.length) (x % s.a7.length)) (i:Int) ((bm s:Nat):Int) ((2*bW s:Nat):Int) ((bm s:Nat):Int) (aU (2*bW s) (ju s l)) (aU (bm s) fun _=>0) w.1 w.2)
     (fun (c:Nat) (_:Unit)=>((c:Int),(aU (i*bm s) fun x=>g6 s (x / bm s) (x % bm s))++aU c (g6 s i))) (bm s) (fun _ _=>True) (fun _=>(aU (i*bm s) fun x=>g6 s (x / bm s) (x % bm s))++aU (bm s) (g6 s i))
     (fun c aF _ _=>by
       refine ⟨(),?_,trivial⟩
       obtain ⟨-,hd,me⟩:=ts s aF
       have Ni:(i+1)*s.a7.length≤2*bW s*s.a7.length:=Nat.mul_le_mul_right _ an
       rw [Nat.succ_mul] at Ni
       have lL:ak (ak ((i:Int)*((s.a7.length:Nat):Int))+((ja s c:Nat):Int))=((i*s.a7.length+ja s c:Nat):Int):=by
        rw [← Int.natCast_mul,cW (x:=((i*s.a7.length:Nat):Int)) (by omega) (by omega),cW (by omega) (by omega)];omega
       have I:(i*s.a7.length+ja s c) / s.a7.length=i:=by rw [Nat.mul_comm,Nat.mul_add_div (by omega),Nat.div_eq_of_lt hd];rfl
       have aj:(i*s.a7.length+ja s c) % s.a7.length=ja s c:=by rw [Nat.mul_comm,Nat.mul_add_mod,Nat.mod_eq_of_lt hd]
       have Nj:=Eb s h i aF
       unfold qc
       refine hi (by simp only;omega) (cj (by rw [dn];simp only;omega) (b1 (x:=((ja s c:Nat):Int)) (by simp only;rw [Int.toNat_natCast];exact iN aF) (cj (by rw [dn];simp only;omega) (b1 (x:=lM s c) (by simp only;rw [Int.toNat_natCast];exact iN aF) ?_))))
       rw [lL]
       refine cj (by rw [dn];omega) (b1 (x:=hc s i (ja s c)) (by rw [Int.toNat_natCast,iN (by omega),I,aj]) (cj (by simp only [List.length_append,dn,List.length_cons,List.length_nil];omega) ?_))
       simp only
       rw [gU (by omega),ll,show lM s c*hc s i (ja s c)=g6 s i c from rfl,cW (by omega) (by omega),List.append_assoc])
     (fun _ _=>by unfold qc;exact fr (by simp) rfl) () trivial
    have z:(aU (i*bm s) fun x=>g6 s (x / bm s) (x % bm s))++aU 0 (g6 s i)=aU (i*bm s) fun x=>g6 s (x / bm s) (x % bm s):=by simp [aU]
    rw [z] at au
    unfold qd
    refine hi (by simp only;omega) (b1 (x:=(aU (i*bm s) fun x=>g6 s (x / bm s) (x % bm s))++aU (bm s) (g6 s i)) (by unfold yL;rw [nn,dn];exact au) ?_)
    simp only
    rw [gU (by omega),tf])
  (fun _ _=>by unfold qd;exact fr (by simp) rfl) () trivial
 have z:(aU (0*bm s) fun x=>g6 s (x / bm s) (x % bm s))=[]:=by simp [aU]
 rw [z] at e
 exact e
def mf (s:bE)(r c:Nat):Int:=if r<2*bW s∧c<bm s then g6 s r c else 0
def jQ (s:bE)(l:List Int)(r:Nat):Int:=if r<2*bW s then ju s l r else 0
def lf (s:bE)(N i c x:Nat):Int:=if (x / N<i∨(x / N=i∧x % N<c))∧x % N<bm s then g6 s (x / N) (x % N) else 0
theorem Le (s:bE){T N i c:Nat}(aF:c<bm s)(eW:bm s≤N)(ol:i*N+c<T){v:Int}(aN:v=g6 s i c):(aU T (lf s N i c)).set (i*N+c) v=aU T (lf s N i (c+1)):=by
 have I:(i*N+c) / N=i:=by rw [Nat.mul_comm,Nat.mul_add_div (by omega),Nat.div_eq_of_lt (by omega)];rfl
 have aj:(i*N+c) % N=c:=by rw [Nat.mul_comm,Nat.mul_add_mod,Nat.mod_eq_of_lt (by omega)]
 rw [q6]
 refine gK fun x _=> ?_
 unfold lf
 by_cases e:x=i*N+c
 ·rw [if_pos e,e,I,aj,if_pos ⟨.inr ⟨rfl,by omega⟩,aF⟩,aN]
 ·rw [if_neg e]
  have b7 : ¬(x / N=i∧x % N=c):=fun ⟨a,b⟩=>e (by rw [← Nat.div_add_mod x N,a,b,Nat.mul_comm])
  by_cases d:(x / N<i∨(x / N=i∧x % N<c))∧x % N<bm s
  ·rw [if_pos d,if_pos ⟨by omega,d.2⟩]
  ·rw [if_neg d,if_neg (fun uH=>d ⟨by omega,uH.2⟩)]
theorem Lf (s:bE)(T N i:Nat):aU T (lf s N i (bm s))=aU T (lf s N (i+1) 0):=by
 refine gK fun x _=> ?_
 unfold lf
 by_cases d:(x / N<i∨(x / N=i∧x % N<bm s))∧x % N<bm s
 ·rw [if_pos d,if_pos ⟨by omega,d.2⟩]
 ·rw [if_neg d,if_neg (fun uH=>d ⟨by omega,uH.2⟩)]
theorem KI (s:bE)(T N:Nat):aU T (lf s N 0 0)=aU T fun _=>0:=gK fun x _=>by
 unfold lf
 rw [if_neg (fun h=>by rcases h.1 with h|h;exact Nat.not_lt_zero _ h;exact Nat.not_lt_zero _ h.2)]
theorem Lg (s:bE)(T N:Nat):aU T (lf s N (2*bW s) 0)=aU T fun x=>mf s (x / N) (x % N):=gK fun x _=>by
 unfold lf mf
 by_cases d:x / N<2*bW s∧x % N<bm s
 ·rw [if_pos d,if_pos ⟨.inl d.1,d.2⟩]
 ·rw [if_neg d,if_neg (fun uH=>d ⟨by omega,uH.2⟩)]
theorem KJ (s:bE)(l:List Int)(M:Nat):(aU M fun x=>if x<0 then jQ s l x else 0)=aU M fun _=>0:=gK fun j _=>by rw [if_neg (by omega)]
theorem Lh (s:bE)(l:List Int)(M:Nat):(aU M fun x=>if x<2*bW s then jQ s l x else 0)=aU M (jQ s l):=gK fun j _=>by
 by_cases c:j<2*bW s
 ·rw [if_pos c]
 ·rw [if_neg c];unfold jQ;rw [if_neg c]
theorem JD (s:bE)(h:k0 s)(l:List Int)(av:l.length=2*s.a3.length)(aM:∀x∈l,-100≤x∧x≤100)(cV hj:Nat)(Pt:cV≤100)(Pu:hj≤100):
 r6 s l (cV:Int) (hj:Int)=some (((2*bW s+hj:Nat):Int),((bm s+cV:Nat):Int),aU ((2*bW s+hj)*(bm s+cV)) (fun x=>mf s (x / (bm s+cV)) (x % (bm s+cV))),aU (2*bW s+hj) (jQ s l),aU (bm s+cV) fun _=>0):=by
 obtain ⟨-,-,f3,f4⟩:=id h
 have nQ:=nA s
 have uG:=rk s
 have wV:(2*bW s+hj)*(bm s+cV)≤112*116:=Nat.mul_le_mul (by omega) (by omega)
 unfold r6
 refine b1 (Ia s h) (b1 (x:=gV s) (CL s (by omega)) ?_)
 have lL:ak ((len_ (eL 1 eI) (aU (2*bW s) fun r=>aU s.a7.length (hc s r)))+(hj:Int))=((2*bW s+hj:Nat):Int):=by rw [cP,dn,cW (by omega) (by omega)];omega
 have jP:ak ((len_ d5 (gV s))+(cV:Int))=((bm s+cV:Nat):Int):=by
  rw [cP];show ak (((bm s:Nat):Int)+(cV:Int))=_
  rw [cW (by omega) (by omega)];omega
 have nc:ak (((2*bW s+hj:Nat):Int)*((bm s+cV:Nat):Int))=(((2*bW s+hj)*(bm s+cV):Nat):Int):=by rw [← Int.natCast_mul,cW (by omega) (by omega)]
 rw [lL,jP,nc,Int.toNat_natCast,Int.toNat_natCast,Int.toNat_natCast,nk,nk,nk,cP,dn]
 refine cj (by omega) (cj (by omega) (cj (by omega) ?_))
 refine b1 (x:=aU ((2*bW s+hj)*(bm s+cV)) (fun x=>mf s (x / (bm s+cV)) (x % (bm s+cV)))) ?_ ?_
 ·unfold xo
  obtain ⟨x,e,-⟩:=iL (f:=fun w:Int×List Int=>pZ s.a3 s.a7 l (gV s) (aU (2*bW s) fun r=>aU s.a7.length (hc s r)) ((2*bW s:Nat):Int) ((2*bW s+hj:Nat):Int) ((bm s+cV:Nat):Int) (aU (2*bW s+hj) fun _=>0) (aU (bm s+cV) fun _=>0) w.1 w.2) (fun (i:Nat) (_:Unit)=>((i:Int),aU ((2*bW s+hj)*(bm s+cV)) (lf s (bm s+cV) i 0))) (2*bW s) (fun _ _=>True) (fun _=>aU ((2*bW s+hj)*(bm s+cV)) (fun x=>mf s (x / (bm s+cV)) (x % (bm s+cV))))
   (fun i an _ _=>by
     refine ⟨(),?_,trivial⟩
     have uo:(i+1)*(bm s+cV)≤(2*bW s+hj)*(bm s+cV):=Nat.mul_le_mul_right _ (by omega)
     rw [Nat.succ_mul] at uo
     obtain ⟨y,au,-⟩:=iL (f:=fun w:Int×List Int=>pY s.a3 s.a7 l (gV s) (i:Int) (aU s.a7.length (hc s i)) (aU (2*bW s) fun r=>aU s.a7.length (hc s r)) ((2*bW s:Nat):Int) ((bm s:Nat):Int) ((2*bW s+hj:Nat):Int) ((bm s+cV:Nat):Int) (aU (2*bW s+hj) fun _=>0) (aU (bm s+cV) fun _=>0) w.1 w.2) (fun (c:Nat) (_:Unit)=>((c:Int),aU ((2*bW s+hj)*(bm s+cV)) (lf s (bm s+cV) i c))) (bm s) (fun _ _=>True) (fun _=>aU ((2*bW s+hj)*(bm s+cV)) (lf s (bm s+cV) i (bm s)))
      (fun c aF _ _=>by
        refine ⟨(),?_,trivial⟩
        obtain ⟨iH,hd,me⟩:=ts s aF
        have Nj:=Eb s h i aF
        have NI:ak (ak ((i:Int)*((bm s+cV:Nat):Int))+((c:Nat):Int))=((i*(bm s+cV)+c:Nat):Int):=by
         rw [← Int.natCast_mul,cW (x:=((i*(bm s+cV):Nat):Int)) (by omega) (by omega),cW (by omega) (by omega)];omega
        unfold pY
        refine hi (by simp only;omega) (cj (by show _∧((c:Nat):Int)<((bm s:Nat):Int);simp only;omega) (b1 (x:=⟨(ja s c:Int),lM s c⟩) (by simp only;rw [Int.toNat_natCast];exact iH) (cj (by rw [dn];simp only;omega) (b1 (x:=hc s i (ja s c)) (by simp only;rw [Int.toNat_natCast];exact iN hd) ?_))))
        simp only
        rw [NI]
        refine cj (by rw [dn];omega) (cj (by rw [dn,Int.toNat_natCast];omega) ?_)
        rw [gU (by omega),Int.toNat_natCast,Nat.zero_add,show lM s c*hc s i (ja s c)=g6 s i c from rfl,cW (by omega) (by omega),Le s aF (by omega) (by omega) rfl])
      (fun _ _=>by unfold pY;exact fr (by simp) rfl) () trivial
     unfold pZ
     refine hi (by simp only;omega) (cj (by rw [dn];simp only;omega) (b1 (x:=aU s.a7.length (hc s i)) (by simp only;rw [Int.toNat_natCast];exact iN an) (b1 (x:=aU ((2*bW s+hj)*(bm s+cV)) (lf s (bm s+cV) i (bm s))) (by unfold xn;rw [cP];exact au) ?_)))
     simp only
     rw [gU (by omega),Lf])
   (fun _ _=>by
     unfold pZ
     refine fr (by simp) ?_
     simp only
     rw [Lg]) () trivial
  rw [KI] at e
  exact e
 refine b1 (ze s (by omega)) ?_
 rw [o3,nn,dn]
 refine b1 (x:=aU (2*bW s+hj) (jQ s l)) ?_ rfl
 unfold xp
 obtain ⟨x,e,-⟩:=iL (f:=fun w:Int×List Int=>p2 l (aU (bW s) fun q=>((dA s q:Nat):Int)) ((bW s:Nat):Int) ((2*bW s+hj:Nat):Int) ((bm s+cV:Nat):Int) (aU ((2*bW s+hj)*(bm s+cV)) (fun x=>mf s (x / (bm s+cV)) (x % (bm s+cV)))) (aU (bm s+cV) fun _=>0) w.1 w.2) (fun (n:Nat) (_:Unit)=>((n:Int),aU (2*bW s+hj) fun x=>if x<2*n then jQ s l x else 0)) (bW s) (fun _ _=>True) (fun _=>aU (2*bW s+hj) (jQ s l))
  (fun n a5 _ _=>by
    refine ⟨(),?_,trivial⟩
    have bp:=tr s a5
    have jP : ∀a:Nat,a≤1000→ak ((2:Int)*((a:Nat):Int))=((2*a:Nat):Int):=fun a bY=>by rw [cW (by omega) (by omega)];omega
    have x1:=aM l[2*dA s n] (List.getElem_mem (by omega))
    have ep:=aM l[2*dA s n+1] (List.getElem_mem (by omega))
    have p1:jQ s l (2*n) = -l[2*dA s n]:=by
     unfold jQ ju
     rw [if_pos (by omega),show 2*n / 2=n by omega,show 2*n % 2=0 by omega,Nat.add_zero,List.getD_eq_getElem?_getD,List.getElem?_eq_getElem (by omega)];rfl
    have e5:jQ s l (2*n+1) = -l[2*dA s n+1]:=by
     unfold jQ ju
     rw [if_pos (by omega),show (2*n+1) / 2=n by omega,show (2*n+1) % 2=1 by omega,List.getD_eq_getElem?_getD,List.getElem?_eq_getElem (by omega)];rfl
    have ct : ∀k v,v=jQ s l k→(aU (2*bW s+hj) fun x=>if x<k then jQ s l x else 0).set k v=aU (2*bW s+hj) fun x=>if x<k+1 then jQ s l x else 0:=fun k v aN=>by
     rw [q6]
     refine gK fun j _=> ?_
     by_cases c:j=k
     ·subst c;rw [if_pos rfl,if_pos (by omega)];exact aN
     ·rw [if_neg c]
      by_cases dh:j<k
      ·rw [if_pos dh,if_pos (by omega)]
      ·rw [if_neg dh,if_neg (by omega)]
    unfold p2
    refine hi (by simp only;omega) (cj (by rw [dn];simp only;omega) (b1 (x:=((dA s n:Nat):Int)) (by simp only;rw [Int.toNat_natCast];exact iN a5) ?_))
    simp only
    rw [jP (dA s n) (by omega),jP n (by omega),gU (n:=2*dA s n) (by omega),gU (n:=2*n) (by omega)]
    refine cj (by omega) (b1 (x:=l[2*dA s n]) (by rw [Int.toNat_natCast];exact List.getElem?_eq_getElem (by omega)) (cj (by omega) (b1 (x:=l[2*dA s n+1]) (by rw [Int.toNat_natCast];exact List.getElem?_eq_getElem (by omega)) ?_)))
    refine cj (by rw [dn];omega) (cj (by rw [dn,Int.toNat_natCast];omega) (cj (by rw [dn];omega) (cj (by rw [List.length_set,dn,Int.toNat_natCast];omega) ?_)))
    rw [gU (by omega),cW (x:=0-l[2*dA s n]) (by omega) (by omega),cW (x:=0-l[2*dA s n+1]) (by omega) (by omega),Int.toNat_natCast,Int.toNat_natCast,Nat.zero_add,Nat.zero_add,ct _ _ (by rw [p1];omega),ct _ _ (by rw [e5];omega),show 2*(n+1)=2*n+1+1 by omega])
  (fun _ _=>by
    unfold p2
    refine fr (by simp) ?_
    simp only
    rw [Lh]) () trivial
 rw [Nat.mul_zero,KJ] at e
 exact e
theorem Cr {pW:Nat}{l:List Int}(h:km pW l=true):l.length=2*pW∧ ∀x∈l,-100≤x∧x≤100:=by
 unfold km at h
 rw [Bool.and_eq_true,decide_eq_true_eq,List.all_eq_true] at h
 exact ⟨h.1,fun x J=>by have:=h.2 x J;unfold lT at this;simpa using this⟩
theorem Cf (l:List (List Int))(h:l.length≤1048576)(av:∀x∈l,x.length≤1048576):qQ l l=some true:=by
 have h1:y6 l l 0=some (if l.all (fun _=>true) then .inl () else .inr ()):=by
  refine vG (f:=fun w=>qx l l w) l _ (fun n x J=> ?_) (by simp [qx,cP])
  have cx:=d8 J
  unfold qx
  have e:=vk x (av x (List.mem_of_getElem? J))
  have c:(n:Int)<(l.length:Int):=by omega
  have cq:0≤(n:Int)∧(n:Int)<(l.length:Int):=by omega
  simp only [cP,decide_eq_true c,if_true,if_pos cq,Int.toNat_natCast,J,Option.bind_eq_bind,Option.bind_some,e]
  rw [i1 (by omega)]
 unfold qQ
 rw [h1]
 simp
theorem IB (l:List (List Int))(av:l.length≤maxLen)(J:∀x∈l,x.length≤maxLen)(left:Int)(h0:0≤left)(h1:left≤1048576):
 ∃r,sH l left=some r∧r≤1048576∧(0≤r→l.length≤1048576∧ ∀x∈l,x.length≤1048576):=by
 have hm:=nX
 have hw:ak (left-((l.length:Nat):Int))=left-(l.length:Nat):=cW (by omega) (by omega)
 unfold sH
 rw [cP,hw]
 by_cases e:left-(l.length:Nat)<0
 ·exact ⟨-1,by simp [e],by omega,by omega⟩
 ·obtain ⟨r,r1,bF⟩:=lk (f:=fun w:Int×Int=>qs l w.1 w.2)
   (fun w=>0≤w.1∧w.1≤1048576∧0≤w.2∧w.2≤l.length∧ ∀(n:Nat) x,(n:Int)<w.2→l[n]? = some x→x.length≤1048576) (fun w=>(l.length-w.2).toNat)
   (fun r=>match r with | .inl a=>a≤1048576∧(0≤a→ ∀x∈l,x.length≤1048576) | .inr _=>True) (fun w fK=>by
     obtain ⟨q1,bu,cr,dr,d7⟩:=fK
     obtain ⟨a,i⟩:=w
     simp only at q1 bu cr dr d7
     by_cases c:i<(l.length:Int)
     ·obtain ⟨x,nF⟩ : ∃x,l[i.toNat]? = some x:=⟨_,List.getElem?_eq_getElem (by omega)⟩
      have cS:=JA x (J x (List.mem_of_getElem? nF)) a q1 bu
      have Nk:ak (i+1)=i+1:=cW (by omega) (by omega)
      unfold qs
      have cq:0≤i∧i<(l.length:Int):=by omega
      simp only [cP,decide_eq_true c,if_true,if_pos cq,nF,Option.bind_eq_bind,Option.bind_some,cS,Nk]
      by_cases g:a<(x.length:Nat)
      ·exact .inr ⟨.inr (),by simp [g],trivial⟩
      ·refine .inl ⟨(a-(x.length:Nat),i+1),?_,⟨by simp only;omega,by simp only;omega,by simp only;omega,by simp only;omega,fun n y a5 aG=> ?_⟩,by simp only;omega⟩
       ·have : ¬a-(x.length:Nat)<0:=by omega
        simp [g,this]
       ·by_cases Nl:(n:Int)<i
        ·exact d7 n y Nl aG
        ·have:n=i.toNat:=by simp only at a5;omega
         subst this
         rw [nF] at aG
         obtain rfl:=Option.some.inj aG
         omega
     ·refine .inr ⟨.inl a,by simp [qs,cP,c],bu,fun _ x Nm=> ?_⟩
      obtain ⟨n,a5⟩:=List.getElem?_of_mem Nm
      exact d7 n x (by have:=d8 a5;omega) a5) (left-(l.length:Nat),0) ⟨by simp only;omega,by simp only;omega,by simp only;omega,by simp only;omega,fun n x a5 _=>by simp only at a5;omega⟩
  have AW:y1 l (left-(l.length:Nat)) 0=some r:=r1
  rw [decide_eq_false e,AW]
  simp only [Bool.false_eq_true,if_false,Option.bind_eq_bind,Option.bind_some]
  cases r with
  | inl a=>exact ⟨a,rfl,bF.1,fun bY=>⟨by omega,bF.2 bY⟩⟩
  | inr a=>exact ⟨-1,rfl,by omega,by omega⟩
def nK (l:List (List Int)):List eJ:=aU l.length fun i=>some (i,(l.getD i []).length)
theorem Li (l:List (List Int)):(nK l).map (hb l)=l:=by
 apply List.ext_getElem?
 intro i
 unfold nK
 rw [KA]
 by_cases h:i<l.length
 ·rw [iN h,List.getElem?_eq_getElem h]
  simp only [hb,List.take_length,List.getD_eq_getElem?_getD,List.getElem?_eq_getElem h,Option.getD_some]
 ·rw [List.getElem?_eq_none (by rw [dn];omega),List.getElem?_eq_none (by omega)]
theorem DX (l:List (List Int))(av:∀x∈l,x.length≤1048576): ∀h∈nK l,mF l h:=by
 intro h dg
 obtain ⟨i,an,rfl⟩:=zL.1 dg
 have J:=List.getElem?_eq_getElem an
 exact ⟨l[i],J,by rw [List.getD_eq_getElem?_getD,J];rfl,by rw [List.getD_eq_getElem?_getD,J];exact av _ (List.getElem_mem an)⟩
theorem Lj (l:List (List Int))(av:∀x∈l,x.length≤1048576):(nK l).all (py l)=true:=by
 rw [List.all_eq_true]
 exact fun h dg=>(DX l av h dg).Ng
theorem IC (l:List (List Int))(h:l.length≤1048576)(av:∀x∈l,x.length≤1048576):ss l=some (nK l,l):=by
 unfold ss yP
 rw [cP,Int.toNat_natCast]
 have e0:(List.replicate l.length (none:eJ))=aU l.length (fun i=>if i<0 then some (i,(l.getD i []).length) else none):=by
  apply List.ext_getElem?
  intro i
  by_cases h:i<l.length
  ·rw [iN h,List.getElem?_replicate,if_pos h,if_neg (by omega)]
  ·rw [List.getElem?_eq_none (by simp;omega),List.getElem?_eq_none (by rw [dn];omega)]
 obtain ⟨x,e,-⟩:=iL (f:=fun w:Int×(List eJ)×(List (List Int))=>qj l w.1 w.2.1 w.2.2) (fun (i:Nat) (_:Unit)=>((i:Int),aU l.length (fun j=>if j<i then some (j,(l.getD j []).length) else none),l.take i)) l.length (fun _ _=>True) (fun _=>(nK l,l))
  (fun i an _ _=>by
    refine ⟨(),?_,trivial⟩
    have J:=List.getElem?_eq_getElem an
    simp only
    unfold qj
    have bd:l.getD i []=l[i]:=by rw [List.getD_eq_getElem?_getD,J];rfl
    rw [cP,i1 (by omega)]
    refine hi (by omega) (cj (by omega) (b1 (gt rfl J) (b1 (IW _ (av _ (List.getElem_mem an))) (cj (by rw [dn];omega) (cj (by rw [dn,Int.toNat_natCast];omega) ?_)))))
    rw [Int.toNat_natCast,Nat.zero_add,q6,List.take_add_one,J]
    simp only [Option.toList_some]
    congr 4
    apply gK
    intro j aq
    by_cases c:j=i
    ·subst c;rw [if_pos rfl,if_pos (by omega),bd,List.length_take];congr 2;omega
    ·rw [if_neg c]
     by_cases d:j<i
     ·rw [if_pos d,if_pos (by omega)]
     ·rw [if_neg d,if_neg (by omega)])
  (fun _ _=>by
    simp only
    unfold qj
    rw [cP]
    refine fr (by omega) ?_
    rw [List.take_length]
    unfold nK
    rw [gK (g:=fun j=>some (j,(l.getD j []).length)) (fun j aq=>if_pos aq)]) () trivial
 rw [List.take_zero,← e0] at e
 exact cj (by omega) (b1 e rfl)
theorem Jj (s:bE)(i0:mh s)(cs:List (List Int))(aF:cs.length≤1048576)(av:∀l∈cs,l.length≤maxLen):
 (qN s cs=some true∧qP s cs=some true∧nd s=some true∧1≤cs.length∧cs.length≤6∧ ∀l∈cs,km s.a3.length l=true)∨(qN s cs=some false∧qP s cs=some false):=by
 obtain ⟨p,p1,e5⟩:=B1 s i0
 have mL:p=true→s.a3.length≤6:=fun h=>(yT s i0 (h▸p1)).2.2.1
 unfold qN qP
 rw [cP,nZ]
 by_cases h1:(1:Int)≤(cs.length:Nat)∧((cs.length:Nat):Int)≤6
 ·have bZ:y2 cs (cs.length:Nat) s.a3 s.a7 0=some (if cs.all (fun l=>p && km s.a3.length l) then .inl () else .inr ()):=by
   refine vG (f:=fun w=>qt cs (cs.length:Nat) s.a3 s.a7 w) cs _ (fun n x J=> ?_) (by unfold qt;exact fr (by omega) rfl)
   have cx:=d8 J
   unfold qt
   have zX:=JB s p p1 mL x (av x (List.mem_of_getElem? J))
   refine hi (by omega) (cj (by omega) (b1 (gt rfl J) (b1 zX ?_)))
   rw [i1 (by omega)]
   cases (p && km s.a3.length x)<;>rfl
  cases p with
  | false =>
   have:cs.all (fun l=>false && km s.a3.length l)=false:=by
    cases cs with
    | nil=>simp at h1
    | cons l cs=>simp
   rw [this] at bZ
   exact .inr ⟨b1 rfl (hI (decide_eq_true h1) (b1 bZ rfl)),fr (by omega) (fr (by omega) (b1 e5 (kC rfl rfl)))⟩
  | true =>
   have an:y5 s.a3 s.a7 cs (cs.length:Nat) 0=some (if cs.all (fun l=>km s.a3.length l) then .inl () else .inr ()):=by
    refine vG (f:=fun w=>qw s.a3 s.a7 cs (cs.length:Nat) w) cs _ (fun n x J=> ?_) (by unfold qw;exact fr (by omega) rfl)
    have cx:=d8 J
    unfold qw
    refine hi (by omega) (cj (by omega) (b1 (gt rfl J) (b1 (IV s (mL rfl) x (av x (List.mem_of_getElem? J))) ?_)))
    rw [i1 (by omega)]
    cases km s.a3.length x<;>rfl
   simp only [Bool.true_and] at bZ
   by_cases c:cs.all (fun l=>km s.a3.length l)=true
   ·rw [c] at bZ an
    exact .inl ⟨b1 rfl (hI (decide_eq_true h1) (b1 bZ rfl)),fr (by omega) (fr (by omega) (b1 e5 (hI rfl (b1 an rfl)))),p1,by omega,by omega,fun l av=>List.all_eq_true.1 c l av⟩
   ·rw [Bool.not_eq_true] at c
    rw [c] at bZ an
    exact .inr ⟨b1 rfl (hI (decide_eq_true h1) (b1 bZ rfl)),fr (by omega) (fr (by omega) (b1 e5 (hI rfl (b1 an rfl))))⟩
 ·refine .inr ⟨b1 rfl (kC (decide_eq_false h1) rfl),?_⟩
  by_cases eM:((cs.length:Nat):Int)<1
  ·exact hi eM rfl
  ·exact fr eM (hi (by omega) rfl)
def hk (s:bE)(cs:List (List Int))(r q:Nat):Int :=
 if q<bm s then (if r<2*bW s then g6 s r q else 0) else if r<2*bW s then (cs.getD (q-bm s) []).getD (2*dA s (r / 2)+r % 2) 0 else 1
def uI (s:bE)(r:Nat):Int:=if r<2*bW s then 0 else 1
def bN (s:bE)(cs:List (List Int)):Nat:=bm s+cs.length
def dV (s:bE):Nat:=2*bW s+1
def Fo (s:bE)(cs:List (List Int)):ix:=⟨(dV s:Int),(bN s cs:Int),aU (dV s*bN s cs) (fun x=>hk s cs (x / bN s cs) (x % bN s cs)),aU (dV s) (uI s),aU (bN s cs) fun _=>0⟩
theorem Lk (s:bE)(cs:List (List Int)){r q:Nat}(h:q<bm s):hk s cs r q=mf s r q:=by
 unfold hk mf
 rw [if_pos h]
 by_cases c:r<2*bW s
 ·rw [if_pos c,if_pos ⟨c,h⟩]
 ·rw [if_neg c,if_neg (fun d=>c d.1)]
def kD (s:bE)(cs:List (List Int))(c i x:Nat):Int :=
 if x % bN s cs<bm s then mf s (x / bN s cs) (x % bN s cs) else if x % bN s cs<bm s+c∨(x % bN s cs=bm s+c∧x / bN s cs<i) then hk s cs (x / bN s cs) (x % bN s cs) else 0
theorem KK (s:bE)(cs:List (List Int)):aU (dV s*bN s cs) (kD s cs 0 0)=aU (dV s*bN s cs) fun x=>mf s (x / bN s cs) (x % bN s cs):=gK fun x _=>by
 unfold kD
 by_cases c:x % bN s cs<bm s
 ·rw [if_pos c]
 ·rw [if_neg c,if_neg (fun h=>by rcases h with h|⟨_,h⟩;exact c (by omega);exact Nat.not_lt_zero _ h)]
  unfold mf
  rw [if_neg (fun h=>c h.2)]
theorem Ll (s:bE)(cs:List (List Int))(eW:0<bN s cs):aU (dV s*bN s cs) (kD s cs cs.length 0)=aU (dV s*bN s cs) fun x=>hk s cs (x / bN s cs) (x % bN s cs):=gK fun x _=>by
 have:=Nat.mod_lt x eW
 unfold kD
 by_cases c:x % bN s cs<bm s
 ·rw [if_pos c,Lk s cs c]
 ·rw [if_neg c,if_pos (.inl (by unfold bN at this ⊢;omega))]
theorem KL (s:bE)(cs:List (List Int))(c:Nat):aU (dV s*bN s cs) (kD s cs c (dV s))=aU (dV s*bN s cs) (kD s cs (c+1) 0):=gK fun x J=>by
 have ah:x / bN s cs<dV s:=Nat.div_lt_of_lt_mul (by rw [Nat.mul_comm];exact J)
 unfold kD
 by_cases d:x % bN s cs<bm s
 ·rw [if_pos d,if_pos d]
 ·rw [if_neg d,if_neg d]
  by_cases e:x % bN s cs<bm s+c∨(x % bN s cs=bm s+c∧x / bN s cs<dV s)
  ·rw [if_pos e,if_pos (.inl (by omega))]
  ·rw [if_neg e,if_neg (fun h=>e (by
    rcases h with h|⟨_,h⟩
    ·by_cases g:x % bN s cs<bm s+c
     ·exact .inl g
     ·exact .inr ⟨by omega,ah⟩
    ·exact (Nat.not_lt_zero _ h).elim))]
theorem zW (s:bE)(cs:List (List Int)){c i:Nat}(aF:c<cs.length)(an:i<dV s){v:Int}(aN:v=hk s cs i (bm s+c)):(aU (dV s*bN s cs) (kD s cs c i)).set (i*bN s cs+(bm s+c)) v=aU (dV s*bN s cs) (kD s cs c (i+1)):=by
 have cx:bm s+c<bN s cs:=by unfold bN;omega
 have I:(i*bN s cs+(bm s+c)) / bN s cs=i:=by rw [Nat.mul_comm,Nat.mul_add_div (by omega),Nat.div_eq_of_lt cx];rfl
 have aj:(i*bN s cs+(bm s+c)) % bN s cs=bm s+c:=by rw [Nat.mul_comm,Nat.mul_add_mod,Nat.mod_eq_of_lt cx]
 rw [q6]
 refine gK fun x _=> ?_
 by_cases e:x=i*bN s cs+(bm s+c)
 ·rw [if_pos e,e]
  unfold kD
  rw [I,aj,if_neg (by omega),if_pos (.inr ⟨rfl,by omega⟩),aN]
 ·rw [if_neg e]
  have b7 : ¬(x / bN s cs=i∧x % bN s cs=bm s+c):=fun ⟨a,b⟩=>e (by rw [← Nat.div_add_mod x (bN s cs),a,b,Nat.mul_comm])
  unfold kD
  by_cases d:x % bN s cs<bm s
  ·rw [if_pos d,if_pos d]
  ·rw [if_neg d,if_neg d]
   by_cases g:x % bN s cs<bm s+c∨(x % bN s cs=bm s+c∧x / bN s cs<i)
   ·rw [if_pos g,if_pos (by omega)]
   ·rw [if_neg g,if_neg (fun h=>g (by omega))]
theorem zN (M N:Nat){i:Nat}(an:i<M)(cu:M≤1000)(eW:N≤1000)(row:List Int)(av:row.length=M*N)(q1 bu:List Int):oF (i:Int) (M:Int) (N:Int) row q1 bu=some (0+i*N,N):=by
 have h1:i*N≤1000*1000:=Nat.mul_le_mul (by omega) eW
 have I:(i+1)*N≤1001*1000:=Nat.mul_le_mul (by omega) eW
 have aj:(i+1)*N≤M*N:=Nat.mul_le_mul_right _ an
 have aB:(i+1)*N=i*N+N:=Nat.succ_mul i N
 have e1:ak ((i:Int)*(N:Int))=((i*N:Nat):Int):=by rw [← Int.natCast_mul,cW (by omega) (by omega)]
 have au:ak (ak ((i:Int)+1)*(N:Int))=(((i+1)*N:Nat):Int):=by rw [gU (by omega),← Int.natCast_mul,cW (by omega) (by omega)]
 unfold oF
 rw [e1,au,Int.toNat_natCast,Int.toNat_natCast,av]
 refine cj (by omega) (cj (by omega) (cj (by omega) ?_))
 rw [show (i+1)*N-i*N=N by omega]
theorem wa (s:bE)(bq:s.a3.length≤6):dV s≤13:=by
 have:=nA s
 unfold dV;omega
theorem DG (s:bE){cs:List (List Int)}{c n db:Nat}{l:List Int}(av:cs[c]? = some l)(a5:n<bW s)(AZ:db<2){v:Int}(aN:l[2*dA s n+db]? = some v):hk s cs (2*n+db) (bm s+c)=v:=by
 unfold hk
 rw [if_neg (by omega),if_pos (by omega),show bm s+c-bm s=c by omega,show (2*n+db) / 2=n by omega,show (2*n+db) % 2=db by omega,List.getD_eq_getElem?_getD,List.getD_eq_getElem?_getD,av]
 simp only [Option.getD_some]
 rw [aN];rfl
theorem Jk (s:bE)(bq:s.a3.length≤6)(cC:s.a7.length≤8)(cs:List (List Int))(hcs:cs.length≤6){c:Nat}(aF:c<cs.length){l:List Int}(av:cs[c]? = some l)(Pv:l.length=2*s.a3.length)(q1 bu:List Int)(uJ:List (List Int))(uK:Int):
 uM s.a3 s.a7 (bm s:Int) (c:Int) l uJ uK (aU (bW s) fun q=>((dA s q:Nat):Int)) ((bW s:Nat):Int) (dV s:Int) (bN s cs:Int) q1 bu 0 (aU (dV s*bN s cs) (kD s cs c 0))=some (aU (dV s*bN s cs) (kD s cs c (2*bW s))):=by
 have nQ:=nA s
 have uG:=rk s
 have cu:=wa s bq
 have eW:bN s cs≤22:=by unfold bN;omega
 have cx:bm s+c<bN s cs:=by unfold bN;omega
 have wV:dV s*bN s cs≤13*22:=Nat.mul_le_mul cu eW
 have Be:ak ((bm s:Int)+(c:Int))=((bm s+c:Nat):Int):=by rw [cW (by omega) (by omega)];omega
 unfold uM
 obtain ⟨_,e,-⟩:=iL (f:=fun w:Int×List Int=>p3 s.a3 s.a7 (bm s:Int) (c:Int) l uJ uK (aU (bW s) fun q=>((dA s q:Nat):Int)) ((bW s:Nat):Int) (dV s:Int) (bN s cs:Int) q1 bu w.1 w.2)
  (fun (n:Nat) (_:Unit)=>((n:Int),aU (dV s*bN s cs) (kD s cs c (2*n)))) (bW s) (fun _ _=>True) (fun _=>aU (dV s*bN s cs) (kD s cs c (2*bW s)))
  (fun n a5 _ _=>by
    refine ⟨(),?_,trivial⟩
    have bp:=tr s a5
    have jP : ∀a:Nat,a≤1000→ak ((2:Int)*((a:Nat):Int))=((2*a:Nat):Int):=fun a bY=>by rw [cW (by omega) (by omega)];omega
    have g1:=List.getElem?_eq_getElem (show 2*dA s n<l.length by omega)
    have g2:=List.getElem?_eq_getElem (show 2*dA s n+1<l.length by omega)
    have iu:(2*n+1)*bN s cs≤dV s*bN s cs:=Nat.mul_le_mul_right _ (by unfold dV;omega)
    have iI:(2*n+1+1)*bN s cs≤dV s*bN s cs:=Nat.mul_le_mul_right _ (by unfold dV;omega)
    have nb:(2*n+1)*bN s cs=2*n*bN s cs+bN s cs:=Nat.succ_mul _ _
    have Bf:(2*n+1+1)*bN s cs=(2*n+1)*bN s cs+bN s cs:=Nat.succ_mul _ _
    simp only
    unfold p3
    rw [Be,jP n (by omega),gU (n:=2*n) (by omega),gU (n:=n) (by omega)]
    refine hi (by omega) (cj (by rw [dn];omega) (b1 (gt rfl (iN a5)) (b1 (zN (dV s) (bN s cs) (i:=2*n) (by unfold dV;omega) (by omega) (by omega) _ (dn ..) q1 bu) ?_)))
    rw [jP (dA s n) (by omega),gU (n:=2*dA s n) (by omega)]
    refine cj (by omega) (b1 (gt rfl g1) (cj (by simp only;omega) (cj (by rw [dn,Int.toNat_natCast];simp only;omega) ?_)))
    simp only
    have gx:l[2*dA s n]=hk s cs (2*n) (bm s+c):=(DG s av a5 (db:=0) (by omega) g1).symm
    rw [Int.toNat_natCast,Nat.zero_add,zW s cs aF (by unfold dV;omega) gx]
    refine b1 (zN (dV s) (bN s cs) (i:=2*n+1) (by unfold dV;omega) (by omega) (by omega) _ (dn ..) q1 bu) (cj (by omega) (b1 (gt rfl g2) (cj (by simp only;omega) (cj (by rw [dn];simp only;omega) ?_))))
    simp only
    rw [Nat.zero_add,zW s cs aF (by unfold dV;omega) (DG s av a5 (db:=1) (by omega) g2).symm,show 2*(n+1)=2*n+1+1 by omega])
  (fun _ _=>by simp only;unfold p3;exact fr (by omega) rfl) () trivial
 exact e
theorem HV (s:bE)(h:k0 s)(cs:List (List Int))(h1:1≤cs.length)(hcs:cs.length≤6)(aM:∀l∈cs,km s.a3.length l=true):
 r7 s cs=some ((dV s:Int),(bN s cs:Int),aU (dV s*bN s cs) (fun x=>hk s cs (x / bN s cs) (x % bN s cs)),aU (dV s) (uI s),aU (bN s cs) fun _=>0):=by
 obtain ⟨-,-,bq,cC⟩:=id h
 have nQ:=nA s
 have uG:=rk s
 have cu:=wa s bq
 have eW:bN s cs≤22:=by unfold bN;omega
 have wV:dV s*bN s cs≤13*22:=Nat.mul_le_mul cu eW
 have Bg:ak ((2:Int)*(len_ aH s.a3))=((2*s.a3.length:Nat):Int):=by rw [cP,cW (by omega) (by omega)];omega
 have f0:=JD s h (aU (2*s.a3.length) fun _=>(0:Int)) (dn ..) (fun x J=>by obtain ⟨i,-,rfl⟩:=zL.1 J;omega) cs.length 1 (by omega) (by omega)
 unfold r7
 refine b1 (x:=gV s) (CL s (by omega)) ?_
 rw [Bg,Int.toNat_natCast,nk]
 refine cj (by omega) (b1 (by rw [cP];exact f0) ?_)
 simp only
 have bB:uN s.a3 s.a7 (len_ d5 (gV s)) cs (len_ (eL 1 eI) cs) (dV s:Int) (bN s cs:Int) (aU (2*bW s+1) (jQ s (aU (2*s.a3.length) fun _=>0))) (aU (bm s+cs.length) fun _=>0) 0 (aU (dV s*bN s cs) fun x=>mf s (x / bN s cs) (x % bN s cs))=some (aU (dV s*bN s cs) (fun x=>hk s cs (x / bN s cs) (x % bN s cs))):=by
  unfold uN
  rw [cP,cP]
  obtain ⟨_,e,-⟩:=iL (f:=fun w:Int×List Int=>p4 s.a3 s.a7 (((gV s).length:Nat):Int) cs (cs.length:Nat) (dV s:Int) (bN s cs:Int) (aU (2*bW s+1) (jQ s (aU (2*s.a3.length) fun _=>0))) (aU (bm s+cs.length) fun _=>0) w.1 w.2)
   (fun (c:Nat) (_:Unit)=>((c:Int),aU (dV s*bN s cs) (kD s cs c 0))) cs.length (fun _ _=>True) (fun _=>aU (dV s*bN s cs) (fun x=>hk s cs (x / bN s cs) (x % bN s cs)))
   (fun c aF _ _=>by
     refine ⟨(),?_,trivial⟩
     have c1:=List.getElem?_eq_getElem aF
     obtain ⟨av,-⟩:=Cr (aM _ (List.getElem_mem aF))
     have cx:bm s+c<bN s cs:=by unfold bN;omega
     have Be:ak ((((gV s).length:Nat):Int)+(c:Int))=((bm s+c:Nat):Int):=by
      show ak ((bm s:Int)+(c:Int))=_
      rw [cW (by omega) (by omega)];omega
     have Bh:ak ((dV s:Int)-1)=((2*bW s:Nat):Int):=by unfold dV;rw [cW (by omega) (by omega)];omega
     have nb:dV s*bN s cs=2*bW s*bN s cs+bN s cs:=Nat.succ_mul _ _
     simp only
     unfold p4
     rw [Be,Bh,gU (n:=c) (by omega)]
     refine hi (by omega) (cj (by omega) (b1 (gt rfl c1) (b1 (ze s (by omega)) ?_)))
     rw [o3,nn,dn]
     refine b1 (Jk s bq cC cs hcs aF c1 av _ _ _ _) (b1 (zN (dV s) (bN s cs) (i:=2*bW s) (by unfold dV;omega) (by omega) (by omega) _ (dn ..) _ _) (cj (by simp only;omega) (cj (by rw [dn,Int.toNat_natCast];simp only;omega) ?_)))
     simp only
     rw [Int.toNat_natCast,Nat.zero_add,zW s cs aF (by unfold dV;omega) (by unfold hk;rw [if_neg (by omega),if_neg (by omega)]),show 2*bW s+1=dV s from rfl,KL])
   (fun _ _=>by
     simp only
     unfold p4
     refine fr (by omega) ?_
     rw [Ll s cs (by unfold bN;omega)]) () trivial
  rw [KK] at e
  exact e
 refine b1 bB ?_
 have Bh:ak (((2*bW s+1:Nat):Int)-1)=((2*bW s:Nat):Int):=by rw [cW (by omega) (by omega)];omega
 rw [Bh,dn,Int.toNat_natCast,Nat.zero_add,q6]
 refine cj (by omega) (cj (by omega) ?_)
 congr 5
 refine gK fun r ah=> ?_
 unfold uI jQ ju
 by_cases c:r=2*bW s
 ·rw [if_pos c,if_neg (by omega)]
 ·have eR:r<2*bW s:=by unfold dV at ah;omega
  have bp:=tr s (show r / 2<bW s by omega)
  rw [if_neg c,if_pos eR,if_pos eR,List.getD_eq_getElem?_getD,iN (by omega)];rfl
theorem JE (s:bE)(cs:List (List Int)){r:Nat}(ah:r<2*bW s):aU (bN s cs) (hk s cs r)=aU (bm s) (g6 s r)++aU cs.length (fun c=>(cs.getD c []).getD (2*dA s (r / 2)+r % 2) 0):=by
 unfold bN
 rw [zM]
 congr 1
 ·exact gK fun q aE=>by unfold hk;rw [if_pos aE,if_pos ah]
 ·exact gK fun c aF=>by unfold hk;rw [if_neg (by omega),if_pos ah,show bm s+c-bm s=c by omega]
theorem Jl (s:bE)(bq:s.a3.length≤6)(cs:List (List Int))(hcs:cs.length≤6)(aM:∀l∈cs,km s.a3.length l=true){n db:Nat}(a5:n<bW s)(AZ:db<2)(kB:Int)(uJ:List Int)(uK Fp iu iI:Int)(nb Bf Fq:List Int)(bS dh:Int)(br aJ row:List Int)(cn:row.length≤100000):
 uZ cs kB (dA s n:Int) (db:Int) uJ uK Fp (len_ (eL 1 eI) cs) iu iI nb Bf Fq bS dh br aJ 0 row=some (row++aU cs.length (fun c=>(cs.getD c []).getD (2*dA s n+db) 0)):=by
 have bp:=tr s a5
 unfold uZ
 rw [cP]
 obtain ⟨_,e,-⟩:=iL (f:=fun w:Int×List Int=>qe cs kB (dA s n:Int) (db:Int) uJ uK Fp (cs.length:Nat) iu iI nb Bf Fq bS dh br aJ w.1 w.2)
  (fun (c:Nat) (_:Unit)=>((c:Int),row++aU c (fun c=>(cs.getD c []).getD (2*dA s n+db) 0))) cs.length (fun _ _=>True) (fun _=>row++aU cs.length (fun c=>(cs.getD c []).getD (2*dA s n+db) 0))
  (fun c aF _ _=>by
    refine ⟨(),?_,trivial⟩
    have c1:=List.getElem?_eq_getElem aF
    obtain ⟨av,-⟩:=Cr (aM _ (List.getElem_mem aF))
    have aN:=List.getElem?_eq_getElem (show 2*dA s n+db<cs[c].length by omega)
    have lL:ak (ak ((2:Int)*(dA s n:Int))+(db:Int))=((2*dA s n+db:Nat):Int):=by
     rw [cW (x:=(2:Int)*(dA s n:Int)) (by omega) (by omega),cW (by omega) (by omega)];omega
    simp only
    unfold qe
    rw [lL,gU (by omega)]
    refine hi (by omega) (cj (by omega) (b1 (gt rfl c1) (cj (by omega) (b1 (gt rfl aN) (cj (by simp only [List.length_append,dn,List.length_singleton];omega) ?_)))))
    rw [ll,List.append_assoc,List.getD_eq_getElem?_getD (l:=cs),c1]
    simp only [Option.getD_some]
    rw [List.getD_eq_getElem?_getD,aN];rfl)
  (fun _ _=>by simp only;unfold qe;exact fr (by omega) rfl) () trivial
 simp only [aU,List.range_zero,List.map_nil,List.append_nil] at e
 exact e
theorem Ip (s:bE)(h:k0 s)(cs:List (List Int))(h1:1≤cs.length)(hcs:cs.length≤6)(aM:∀l∈cs,km s.a3.length l=true):so s cs=some (Fo s cs):=by
 obtain ⟨-,-,bq,cC⟩:=id h
 have nQ:=nA s
 have uG:=rk s
 have cu:=wa s bq
 have eW:bN s cs≤22:=by unfold bN;omega
 have wV:dV s*bN s cs≤13*22:=Nat.mul_le_mul cu eW
 have Bg:ak ((2:Int)*(len_ aH s.a3))=((2*s.a3.length:Nat):Int):=by rw [cP,cW (by omega) (by omega)];omega
 have NJ:ak ((bm s:Int)+(len_ (eL 1 eI) cs))=((bN s cs:Nat):Int):=by rw [cP,cW (by omega) (by omega)];unfold bN;omega
 have NK:ak (((2*bW s:Nat):Int)+1)=((dV s:Nat):Int):=by rw [gU (by omega)];rfl
 unfold so
 rw [Bg,Int.toNat_natCast,nk]
 refine cj (by omega) (b1 (Io s h (aU (2*s.a3.length) fun _=>(0:Int)) (dn ..) (fun x J=>by obtain ⟨i,-,rfl⟩:=zL.1 J;omega)) ?_)
 unfold Fm
 simp only
 rw [NJ,NK,Int.toNat_natCast,Int.toNat_natCast,nk,nk]
 refine cj (by omega) (b1 (vn s (by omega)) ?_)
 rw [o3,nn,dn]
 have Mf : ∀r,r<2*bW s→(((aU (2*bW s*bm s) fun x=>g6 s (x / bm s) (x % bm s)).drop (r*bm s)).take ((r+1)*bm s-r*bm s))=aU (bm s) (g6 s r):=fun r ah=>by
  have eM:(r+1)*bm s=r*bm s+bm s:=Nat.succ_mul _ _
  have fR:(r+1)*bm s≤2*bW s*bm s:=Nat.mul_le_mul_right _ ah
  apply List.ext_getElem?
  intro j
  rw [List.getElem?_take,List.getElem?_drop]
  by_cases c:j<bm s
  ·have I:(r*bm s+j) / bm s=r:=by rw [Nat.mul_comm,Nat.mul_add_div (by omega),Nat.div_eq_of_lt c];rfl
   have aj:(r*bm s+j) % bm s=j:=by rw [Nat.mul_comm,Nat.mul_add_mod,Nat.mod_eq_of_lt c]
   rw [if_pos (by omega),iN (by omega),iN c,I,aj]
  ·rw [if_neg (by omega),List.getElem?_eq_none (by rw [dn];omega)]
 have hS:u0 cs (aU (bW s) fun q=>((dA s q:Nat):Int)) ((bW s:Nat):Int) ((2*bW s:Nat):Int) (bm s:Int) (aU (2*bW s*bm s) fun x=>g6 s (x / bm s) (x % bm s)) (aU (2*bW s) (ju s (aU (2*s.a3.length) fun _=>0))) (aU (bm s) fun _=>0) (dV s:Int) (bN s cs:Int) (aU (bN s cs) fun _=>0) 0 0 [] []=some (aU (2*bW s*bN s cs) (fun x=>hk s cs (x / bN s cs) (x % bN s cs)),aU (2*bW s) fun _=>0):=by
  unfold u0
  obtain ⟨_,e,-⟩:=iL (f:=fun w:Int×Int×(List Int)×(List Int)=>qg cs (aU (bW s) fun q=>((dA s q:Nat):Int)) ((bW s:Nat):Int) ((2*bW s:Nat):Int) (bm s:Int) (aU (2*bW s*bm s) fun x=>g6 s (x / bm s) (x % bm s)) (aU (2*bW s) (ju s (aU (2*s.a3.length) fun _=>0))) (aU (bm s) fun _=>0) (dV s:Int) (bN s cs:Int) (aU (bN s cs) fun _=>0) w.1 w.2.1 w.2.2.1 w.2.2.2)
   (fun (n:Nat) (_:Unit)=>(((2*n:Nat):Int),(n:Int),aU (2*n*bN s cs) (fun x=>hk s cs (x / bN s cs) (x % bN s cs)),aU (2*n) fun _=>(0:Int))) (bW s) (fun _ _=>True) (fun _=>(aU (2*bW s*bN s cs) (fun x=>hk s cs (x / bN s cs) (x % bN s cs)),aU (2*bW s) fun _=>0))
   (fun n a5 _ _=>by
     refine ⟨(),?_,trivial⟩
     simp only
     unfold qg
     rw [gU (n:=n) (by omega)]
     refine hi (by omega) (cj (by rw [dn];omega) (b1 (gt rfl (iN a5)) (b1 (x:=(((2*n+2:Nat):Int),aU ((2*n+2)*bN s cs) (fun x=>hk s cs (x / bN s cs) (x % bN s cs)),aU (2*n+2) fun _=>(0:Int))) ?_ (by rw [show 2*(n+1)=2*n+2 by omega]))))
     unfold yM
     obtain ⟨_,e,-⟩:=iL (f:=fun w:Int×Int×(List Int)×(List Int)=>qf cs (dA s n:Int) (aU (bW s) fun q=>((dA s q:Nat):Int)) ((bW s:Nat):Int) (n:Int) ((2*bW s:Nat):Int) (bm s:Int) (aU (2*bW s*bm s) fun x=>g6 s (x / bm s) (x % bm s)) (aU (2*bW s) (ju s (aU (2*s.a3.length) fun _=>0))) (aU (bm s) fun _=>0) (dV s:Int) (bN s cs:Int) (aU (bN s cs) fun _=>0) w.1 w.2.1 w.2.2.1 w.2.2.2)
      (fun (db:Nat) (_:Unit)=>(((2*n+db:Nat):Int),(db:Int),aU ((2*n+db)*bN s cs) (fun x=>hk s cs (x / bN s cs) (x % bN s cs)),aU (2*n+db) fun _=>(0:Int))) 2 (fun _ _=>True) (fun _=>(((2*n+2:Nat):Int),aU ((2*n+2)*bN s cs) (fun x=>hk s cs (x / bN s cs) (x % bN s cs)),aU (2*n+2) fun _=>(0:Int)))
      (fun db AZ _ _=>by
        refine ⟨(),?_,trivial⟩
        have ah:2*n+db<2*bW s:=by omega
        have eM:(2*n+db+1)*bm s=(2*n+db)*bm s+bm s:=Nat.succ_mul _ _
        have fR:(2*n+db+1)*bm s≤2*bW s*bm s:=Nat.mul_le_mul_right _ ah
        have dM:2*bW s*bm s≤12*16:=Nat.mul_le_mul (by omega) (by omega)
        have fS:(2*n+db)*bN s cs≤12*22:=Nat.mul_le_mul (by omega) eW
        have lL:ak (((2*n+db:Nat):Int)*(bm s:Int))=(((2*n+db)*bm s:Nat):Int):=by rw [← Int.natCast_mul,cW (by omega) (by omega)]
        have jP:ak (ak (((2*n+db:Nat):Int)+1)*(bm s:Int))=(((2*n+db+1)*bm s:Nat):Int):=by rw [gU (by omega),← Int.natCast_mul,cW (by omega) (by omega)]
        simp only
        unfold qf
        rw [lL,jP,Int.toNat_natCast,Int.toNat_natCast,Mf _ ah,gU (n:=2*n+db) (by omega),gU (n:=db) (by omega)]
        refine hi (by omega) (cj (by omega) (cj (by omega) (cj (by rw [dn];omega) (cj (by rw [List.length_append,dn,dn];omega) (b1 (Jl s bq cs hcs aM a5 AZ _ _ _ _ _ _ _ _ _ _ _ _ _ _ (by rw [List.length_append,dn,dn];omega)) (cj (by simp only [List.length_append,dn,List.length_singleton];omega) ?_))))))
        have w4:=JE s cs ah
        rw [show (2*n+db) / 2=n by omega,show (2*n+db) % 2=db by omega] at w4
        rw [List.append_assoc,← w4,tf,← ll (2*n+db) fun _=>(0:Int)]
        rfl)
      (fun _ _=>by simp only;unfold qf;exact fr (by omega) rfl) () trivial
     exact e)
   (fun _ _=>by simp only;unfold qg;exact fr (by omega) rfl) () trivial
  simp only [Nat.mul_zero,Nat.zero_mul,aU,List.range_zero,List.map_nil] at e
  exact e
 refine b1 hS ?_
 simp only
 have lc:2*bW s*bN s cs≤12*22:=Nat.mul_le_mul (by omega) eW
 refine cj (by omega) (cj (by rw [List.length_append,dn,dn];omega) (b1 (x:=aU (dV s*bN s cs) fun x=>hk s cs (x / bN s cs) (x % bN s cs)) ?_ (cj (by rw [List.length_append,dn,List.length_singleton];omega) ?_)))
 ·unfold yN
  rw [cP]
  obtain ⟨_,e,-⟩:=iL (f:=fun w:Int×List Int=>qh (cs.length:Nat) (dV s:Int) (bN s cs:Int) (aU (2*bW s) fun _=>0) (aU (bN s cs) fun _=>0) w.1 w.2)
   (fun (c:Nat) (_:Unit)=>((c:Int),(aU (2*bW s*bN s cs) (fun x=>hk s cs (x / bN s cs) (x % bN s cs))++aU (bm s) fun _=>(0:Int))++aU c fun _=>(1:Int))) cs.length (fun _ _=>True) (fun _=>aU (dV s*bN s cs) fun x=>hk s cs (x / bN s cs) (x % bN s cs))
   (fun c aF _ _=>by
     refine ⟨(),?_,trivial⟩
     simp only
     unfold qh
     refine hi (by omega) (cj (by simp only [List.length_append,dn,List.length_singleton];omega) ?_)
     rw [gU (by omega),ll c,List.append_assoc _ (aU c _)])
   (fun _ _=>by
     simp only
     unfold qh
     refine fr (by omega) ?_
     have w4:aU (bN s cs) (hk s cs (2*bW s))=(aU (bm s) fun _=>(0:Int))++aU cs.length fun _=>(1:Int):=by
      unfold bN
      rw [zM]
      congr 1
      ·exact gK fun q aE=>by unfold hk;rw [if_pos aE,if_neg (by omega)]
      ·exact gK fun c aF=>by unfold hk;rw [if_neg (by omega),if_neg (by omega)]
     rw [List.append_assoc,← w4,tf];rfl) () trivial
  simp only [aU,List.range_zero,List.map_nil,List.append_nil] at e ⊢
  exact e
 ·unfold Fo
  congr 2
  rw [show dV s=2*bW s+1 from rfl,ll]
  congr 1
  ·exact gK fun r ah=>by unfold uI;rw [if_pos ah]
  ·unfold uI;rw [if_neg (by omega)]
theorem HH (s:bE)(i0:mh s)(cs:List (List Int))(aF:cs.length≤1048576)(av:∀l∈cs,l.length≤maxLen):
 ∃a b x y z,x.length≤1000∧y.length≤1000∧z.length≤1000∧sk s cs=some ⟨a,b,x,y,z⟩∧(qD s cs=some (.inl (a,b,x,y,z))∨(qD s cs=some (.inr ())∧(⟨a,b,x,y,z⟩:ix)=⟨0,0,[],[],[]⟩)):=by
 unfold sk qD
 rcases Jj s i0 cs aF av with ⟨e1,au,h,bS,mb,aM⟩|⟨e1,au⟩
 ·obtain ⟨-,-,bq,cC⟩:=yT s i0 h
  have uG:=rk s
  have cu:=wa s bq
  have eW:bN s cs≤22:=by unfold bN;omega
  have wV:dV s*bN s cs≤13*22:=Nat.mul_le_mul cu eW
  exact ⟨_,_,_,_,_,by rw [dn];omega,by rw [dn];omega,by rw [dn];omega,b1 e1 (hI rfl (b1 (Ip s (B7 s i0 h) cs bS mb aM) rfl)),.inl (b1 au (hI rfl (b1 (HV s (B7 s i0 h) cs bS mb aM) rfl)))⟩
 ·exact ⟨0,0,[],[],[],by simp,by simp,by simp,b1 e1 (kC rfl rfl),.inr ⟨b1 au (kC rfl rfl),rfl⟩⟩
theorem FZ (x0:bE)(x1:List (List Int))(i0:mh x0)(i1:(fun l=>l.length≤maxLen∧ ∀x∈l,(fun l=>l.length≤maxLen∧ ∀x∈l,nC x) x) x1):uT x0 x1=some true:=by
 unfold uT
 obtain ⟨r,r1,bF⟩:=HE x0 i0 1048576 (by omega) (by omega)
 have ah:=H7 x0 i0 1048576 (by omega) (by omega) r r1
 refine b1 r1 ?_
 by_cases I:r<0
 ·exact hi I rfl
 obtain ⟨eM,fR⟩:=bF (by omega)
 obtain ⟨t,t1,-,t2⟩:=IB x1 i1.1 (fun x J=>(i1.2 x J).1) r (by omega) ah
 refine fr I (b1 t1 ?_)
 by_cases aj:t<0
 ·exact hi aj rfl
 obtain ⟨iu,iI⟩:=t2 (by omega)
 obtain ⟨a,b,x,y,z,lH,nM,Fi,q1,bu⟩:=HH x0 i0 x1 iu (fun x J=>(i1.2 x J).1)
 obtain ⟨iH,PD,fQ,d1,d2,wY,NL,PE⟩:=G1 (k:=1) (l:=x0.a3) (m:=x0.a7) (by omega) (by omega)
 have Nn:(nK x1).length=x1.length:=dn ..
 obtain ⟨hd,PF,f1,f2,f3⟩:=HG (k:=iH) (bZ:=nK x1) (P:=x1) (DX x1 iI) NL (by rw [Nn];omega)
 refine fr aj (b1 (HF x0 eM fR) (b1 (IC x1 iu iI) (cj (Lj x1 iI) ?_)))
 simp only [Li]
 refine b1 q1 ?_
 rcases bu with g|⟨g,e⟩
 ·refine b1 g (b1 (B9 _ (by simp only;omega) (by simp only;omega) (by simp only;omega)) (hI rfl (b1 (B0 x0 eM fR) (hI rfl (b1 (Cf x1 iu iI) (hI rfl (b1 d1 (cj d2.symm (cj wY.symm (b1 f1 (fr (by simp only;omega) (b1 (H9 (by omega) (by simp only;omega)) ?_))))))))))))
  simp only
  exact cj (by rw [lO]) (cj (by rw [lO]) (cj (by rw [lO]) (b1 (Ca (by omega) (by omega)) (fr (by omega) (kC (pz rfl) rfl)))))
 ·rw [e]
  have NM:sd 1 0 0 [] [] []=some 1:=by
   unfold sd
   exact b1 (vg 1) (b1 (vg 1) (b1 (vg 1) rfl))
  have h0:oI ⟨0,0,[],[],[]⟩ 1=some 1:=by
   have:=Ca (k:=1) (a:=0) (b:=0) (x:=0) (y:=0) (z:=0) (by omega) (by omega)
   simpa [marks] using this
  exact b1 g (b1 (B9 _ (by simp) (by simp) (by simp)) (hI rfl (b1 (B0 x0 eM fR) (hI rfl (b1 (Cf x1 iu iI) (hI rfl (b1 d1 (cj d2.symm (cj wY.symm (b1 f1 (fr (by simp only;omega) (b1 NM (b1 h0 (fr (by omega) (kC rfl rfl)))))))))))))))
end Go.Proofs.Ytdkjpcaalflfhac
