/- Lemmas, plain functions of the program, and what they answer. No condition. -/
import Derived.Test.YtgfpnhmcmgnepaaMC
namespace Go.Proofs.Ytgfpnhmcmgnepaa
set_option linter.unusedVariables false
set_option linter.unusedSimpArgs false
open Go Go.VL
theorem Ny {n:Nat}(h:n≤10000000):ai ((n:Int)+1)=((n+1:Nat):Int):=by rw [cr (by omega) (by omega)];rfl
theorem oX (l:List Int):len_ eI l=l.length:=cX _ l
def Q5 (x:Int):Bool:=decide (0≤x) && decide (x<1000000000)
theorem L4 {b:List Int}{i:Nat}{y:Int}(h1:∀z,b[i]? = some z→y=z)(h2:b[i]? = none→y=0):V (b.take (i+1))=V (b.take i)+B i*y:=by
 cases h:b[i]? with
 | some z=>rw [h1 z h,Mo h]
 | none =>
  rw [h2 h]
  have:b.length≤i:=by simpa using h
  rw [List.take_of_length_le (by omega),List.take_of_length_le (by omega)]
  simp
def Bq (p:Nat)(l:List Int):Prop:= ∀i z,i≠p→l[i]? = some z→0≤z∧z<1000000000
theorem Bq.set {p:Nat}{l:List Int}(h:Bq p l){k:Nat}{x:Int}(I:0≤x∧x<1000000000):Bq p (l.set k x):=fun i z an cn=>by
 by_cases aV:k=i
 ·subst aV
  rw [List.getElem?_set] at cn
  simp only [if_true] at cn
  split at cn
  ·rw [← Option.some.inj cn];exact I
  ·simp at cn
 ·rw [List.getElem?_set_ne aV] at cn
  exact h i z an cn
theorem ob (n bS an:Int):lE n bS an=some (decide (bS≤n∧n≤an)):=by
 unfold lE
 by_cases h:bS≤n<;>simp [h]
theorem wK {α β:Type}{t:Nat→α→Option β}: ∀(l:List α) (k:Nat),(∀n x,l[n]? = some x→t (k+n) x=none)→scan t k l=none
 | [],_,_=>rfl
 | x::l,k,h=>by
  have h0:=h 0 x rfl
  simp only [Nat.add_zero] at h0
  simp only [scan,h0]
  exact wK l (k+1) fun n y aI=>by rw [show k+1+n=k+(n+1) by omega];exact h (n+1) y (by simpa using aI)
theorem tO (l:List Int)(h:l.length≤1048576):n9 l l=some true:=by
 have h1:Ac l l 0=some (.inl ()):=by
  have:=wG (f:=fun w=>rm l l w) (t:=fun _ _=>none) (e:= .inl ()) l 0 (fun n x I=>by
   have a6:=ej I
   have hw:ai ((n:Int)+1)=((n+1:Nat):Int):=by rw [cr (by omega) (by omega)];rfl
   simp only [rm,cX,Nat.zero_add,hw]
   simp [a6]) (by simp [rm,cX])
  rw [wK l 0 (fun _ _ _=>rfl)] at this
  exact this
 simp [n9,h1]
theorem Kj (j:aM):tK j j=some true:=by simp [tK]
theorem JZ (j:aX):tC j j=some true:=by simp [tC]
theorem J0 (l:List aM)(h:l.length≤1048576):tB l l=some true:=by
 have h1:zZ l l 0=some (.inl ()):=by
  have:=wG (f:=fun w=>ra l l w) (t:=fun _ _=>none) (e:= .inl ()) l 0 (fun n x I=>by
   have a6:=ej I
   have hw:ai ((n:Int)+1)=((n+1:Nat):Int):=by rw [cr (by omega) (by omega)];rfl
   simp only [ra,cX,Nat.zero_add,hw]
   simp [a6,Kj]) (by simp [ra,cX])
  rw [wK l 0 (fun _ _ _=>rfl)] at this
  exact this
 simp [tB,h1]
theorem JR (l:List aX)(h:l.length≤1048576):tu l l=some true:=by
 have h1:zS l l 0=some (.inl ()):=by
  have:=wG (f:=fun w=>q5 l l w) (t:=fun _ _=>none) (e:= .inl ()) l 0 (fun n x I=>by
   have a6:=ej I
   have hw:ai ((n:Int)+1)=((n+1:Nat):Int):=by rw [cr (by omega) (by omega)];rfl
   simp only [q5,cX,Nat.zero_add,hw]
   simp [a6,JZ]) (by simp [q5,cX])
  rw [wK l 0 (fun _ _ _=>rfl)] at this
  exact this
 simp [tu,h1]
theorem Dh (s:bl)(h1:s.bb.length≤1048576)(h2:s.aR.length≤1048576):rv s s=some true:=by
 simp [rv,J0 _ h1,JR _ h2]
theorem Kk (j:aM)(left:Int)(aq:j.eM.size≤maxLen)(h0:0≤left)(h1:left≤1048576): ∃r,tF j left=some r∧r≤left:=by
 have hm:j.eM.size<9223372036854775808:=by have:maxLen=9223372036854775807:=by decide
                                           omega
 have hw:ai (left-j.eM.size)=left-j.eM.size:=cr (by omega) (by omega)
 unfold tF
 rw [hw]
 by_cases h:left-(j.eM.size:Int)<0
 ·exact ⟨-1,by simp [h],by omega⟩
 ·exact ⟨left-j.eM.size,by simp [h],by omega⟩
theorem Dt (l:List aM)(left:Int)(aA:l.length≤maxLen)(aq:∀j∈l,j.eM.size≤maxLen)(h0:0≤left)(h1:left≤1048576):
 ∃r,tv l left=some r∧r≤left∧(0≤r→l.length≤1048576):=by
 have hm:maxLen=9223372036854775807:=by decide
 have hw:ai (left-(l.length:Nat))=left-(l.length:Nat):=cr (by omega) (by omega)
 unfold tv
 simp only [cX,hw]
 by_cases h:left-(l.length:Int)<0
 ·exact ⟨-1,by simp [h],by omega,by omega⟩
 ·obtain ⟨r,r1,r2⟩:=lF (f:=fun w:Int×Int=>pq l w.1 w.2) (fun w=>0≤w.1∧w.1≤left∧0≤w.2∧w.2≤l.length) (fun w=>(l.length-w.2).toNat)
   (fun r=>match r with | .inl a=>a≤left | .inr _=>True) (fun w hw=>by
     obtain ⟨a,i⟩:=w
     simp only at hw
     obtain ⟨lA,jT,nZ,GP⟩:=hw
     by_cases an:i<l.length
     ·obtain ⟨x,I⟩ : ∃x,l[i.toNat]? = some x:=⟨_,List.getElem?_eq_getElem (by omega)⟩
      obtain ⟨r,s1,s2⟩:=Kk x a (aq x (List.mem_of_getElem? I)) lA (by omega)
      obtain ⟨a6,rfl⟩:=List.getElem?_eq_some_iff.1 I
      have vk:ai (i+1)=i+1:=cr (by omega) (by omega)
      by_cases ak:r<0
      ·right
       exact ⟨.inr (),by simp [pq,cX,an,nZ,I,s1,ak],trivial⟩
      ·left
       refine ⟨(r,i+1),by simp [pq,cX,an,nZ,I,s1,ak,vk],?_,?_⟩
       ·simp only;omega
       ·simp only;omega
     ·right
      exact ⟨.inl a,by simp [pq,cX,an],by simpa using jT⟩) (left-(l.length:Nat),0) (by simp only;omega)
  have O3:zT l (left-(l.length:Nat)) 0=some r:=r1
  rw [O3]
  cases r with
  | inl a=>exact ⟨a,by simp [h],r2,by omega⟩
  | inr a=>exact ⟨-1,by simp [h],by omega,by omega⟩
theorem Dp (l:List aX)(left:Int)(aA:l.length≤maxLen)(h0:0≤left)(h1:left≤1048576):
 ∃r,tr l left=some r∧r≤left∧(0≤r→l.length≤1048576):=by
 have hm:maxLen=9223372036854775807:=by decide
 have hw:ai (left-(l.length:Nat))=left-(l.length:Nat):=cr (by omega) (by omega)
 unfold tr
 simp only [cX,hw]
 by_cases h:left-(l.length:Int)<0
 ·exact ⟨-1,by simp [h],by omega,by omega⟩
 ·exact ⟨left-(l.length:Nat),by simp [h],by omega,by omega⟩
theorem Jp (s:bl)(i0:jV s)(left:Int)(h0:0≤left)(h1:left≤1048576):
 ∃r,pt s left=some r∧(0≤r→s.bb.length≤1048576∧s.aR.length≤1048576):=by
 obtain ⟨⟨ea,ep⟩,dq,gj⟩:=i0
 obtain ⟨r,r1,r2,bz⟩:=Dt s.bb left ea (fun j aq=>(ep j aq).1) h0 h1
 unfold pt
 rw [r1]
 by_cases h:r<0
 ·exact ⟨-1,by simp [h],by omega⟩
 ·obtain ⟨q,q1,q2,cg⟩:=Dp s.aR r dq (by omega) (by omega)
  by_cases aD:q<0
  ·exact ⟨-1,by simp [h,q1,aD],by omega⟩
  ·exact ⟨q,by simp [h,q1,aD],fun _=>⟨bz (by omega),cg (by omega)⟩⟩
theorem nC:maxLen=9223372036854775807:=by decide
theorem KV (n:Int):rH n=lE n (-50) 50:=by
 rw [ob]
 unfold rH
 by_cases h : -50≤n<;>simp [h]
theorem Ky (c:Int):tz c=some (decide (97≤c∧c≤122)):=by
 unfold tz
 by_cases h:97≤c<;>simp [h]
theorem KW (c:Int):tH c=some (decide (48≤c∧c≤57)):=by
 unfold tH
 by_cases h:48≤c<;>simp [h]
theorem Kz (s:ByteArray)(i:Int):s9 s s.size i=oN s i:=by
 unfold s9 oN
 generalize ((s.data.toList.getD i.toNat 0).toNat:Int)=c
 simp only [Ky,KW,Option.bind_eq_bind,Option.bind_some]
 by_cases h1:i<(s.size:Int)<;>by_cases h0:0≤i<;>by_cases a:(97:Int)≤c<;>by_cases b:c≤122<;>by_cases d:i=0<;>by_cases e:c<48<;>by_cases f:57<c <;>
  simp [h1,h0,a,b,d,e,f,Int.not_lt.1,Int.not_le]<;>omega
theorem Lg (s:ByteArray):tN s=oP s:=by
 have h:wc s s.size 0=ts s 0:=by
  unfold wc ts
  congr 1
  funext w
  exact Kz s w
 unfold tN oP
 rw [h]
 congr 1
 funext r
 cases r with
 | inr a=>rfl
 | inl a =>
  simp only [ob,Option.bind_eq_bind,Option.bind_some]
  by_cases h0:s.size=0
  ·have:s=⟨#[]⟩:=by
    cases s with
    | mk d=>simp only [ByteArray.size] at h0;rw [Array.size_eq_zero_iff] at h0;rw [h0]
   subst this
   have e0:(ByteArray.mk #[]).size=0:=rfl
   simp [e0]
  ·have cb:s.toList≠(⟨#[]⟩:ByteArray).toList:=by
    intro e
    have aA : ∀x:ByteArray,x.toList.length=x.size:=by intro x;rw [ByteArray.toList_eq];rfl
    have:=aA s
    rw [e,aA] at this
    exact h0 this.symm
   simp only [beq_iff_eq,cb,Bool.not_eq_true',beq_eq_false_iff_ne,ne_eq,not_false_eq_true,if_true]
   congr 1
   apply decide_eq_decide.2
   omega
theorem KA (s:ByteArray)(cf:s.size≤maxLen): ∃r,oP s=some r:=by
 have hm:=nC
 obtain ⟨r,h,-⟩:=lF (f:=fun w=>oN s w) (fun i=>0≤i∧i≤s.size) (fun i=>(s.size-i).toNat) (fun _=>True) (fun i an=>by
  obtain ⟨h0,h1⟩:=an
  by_cases h2:i<(s.size:Int)
  ·have hw:ai (i+1)=i+1:=cr (by omega) (by omega)
   unfold oN
   generalize ((s.data.toList.getD i.toNat 0).toNat:Int)=c
   have Nz:0≤i+1∧i+1≤(s.size:Int):=by omega
   have jH:((s.size:Int)-(i+1)).toNat<((s.size:Int)-i).toNat:=by omega
   have key : ∀x:Option (Int⊕(Unit⊕Unit)),(x=some (.inl (i+1))∨x=some (.inr (.inr ())))→(∃cl,x=some (.inl cl)∧(0≤cl∧cl≤(s.size:Int))∧((s.size:Int)-cl).toNat<((s.size:Int)-i).toNat)∨ ∃r,x=some (.inr r)∧True:=by
    intro x I
    rcases I with I|I
    ·exact .inl ⟨i+1,I,Nz,jH⟩
    ·exact .inr ⟨_,I,trivial⟩
   apply key
   simp only [h2,h0,hw,decide_true,if_true,and_self]
   by_cases a:(97:Int)≤c<;>by_cases b:c≤122<;>by_cases d:i=0<;>by_cases e:c<48<;>by_cases f:57<c<;>simp [a,b,d,e,f]
  ·exact .inr ⟨.inl (),by simp [oN,h2],trivial⟩) 0 (by omega)
 have bY:ts s 0=some r:=h
 unfold oP
 rw [bY]
 cases r with
 | inl a=>exact ⟨_,by simp [ob];rfl⟩
 | inr a=>exact ⟨_,rfl⟩
theorem KX (j:aM):tI j=lW j:=by
 unfold tI lW
 simp only [Lg,KV]
theorem Dy (j:aM)(h:j.eM.size≤maxLen): ∃r,lW j=some r:=by
 obtain ⟨r,ak⟩:=KA _ h
 unfold lW
 simp only [ak,ob,Option.bind_eq_bind,Option.bind_some]
 repeat' split
 all_goals exact ⟨_,rfl⟩
theorem J1 (s:bl)(n:ByteArray):tq s n=pv s n:=by
 have h:vN s.bb n (len_ aP s.bb) 0=rp n s.bb (len_ aP s.bb) 0:=by
  unfold vN rp
  congr 1
 unfold tq pv vQ
 rw [h]
 cases rp n s.bb (len_ aP s.bb) 0 with
 | none=>rfl
 | some r=>cases r<;>rfl
theorem Dl (s:bl)(n:ByteArray)(h:s.bb.length≤maxLen): ∃r,pv s n=some r:=by
 have hm:=nC
 obtain ⟨r,h1,-⟩:=lF (f:=fun w=>qU n s.bb (len_ aP s.bb) w) (fun i=>0≤i∧i≤s.bb.length) (fun i=>(s.bb.length-i).toNat) (fun _=>True) (fun i an=>by
  obtain ⟨h0,h1⟩:=an
  by_cases h2:i<(s.bb.length:Int)
  ·have hw:ai (i+1)=i+1:=cr (by omega) (by omega)
   obtain ⟨x,I⟩ : ∃x,s.bb[i.toNat]? = some x:=⟨_,List.getElem?_eq_getElem (by omega)⟩
   unfold qU
   simp only [cX,h2,h0,hw,I,decide_true,if_true,and_self,Option.bind_eq_bind,Option.bind_some]
   by_cases e:(x.eM.toList == n.toList)=true
   ·exact .inr ⟨_,by rw [if_pos e],trivial⟩
   ·exact .inl ⟨i+1,by rw [if_neg e],by omega,by omega⟩
  ·exact .inr ⟨.inl (),by simp [qU,cX,h2],trivial⟩) 0 (by omega)
 have bY:rp n s.bb (len_ aP s.bb) 0=some r:=h1
 unfold pv
 rw [bY]
 cases r with
 | inl a=>exact ⟨_,rfl⟩
 | inr a=>exact ⟨_,rfl⟩
theorem Dm (s:bl):vY s.bb (len_ aP s.bb) s.aR 0=ps s.bb (len_ aP s.bb) s.aR 0:=by
 unfold vY ps
 congr 1
 funext w
 unfold vT ny
 simp only [KX,J1]
theorem Df (s:bl)(i0:jV s): ∃r,ps s.bb (len_ aP s.bb) s.aR 0=some r:=by
 have hm:=nC
 obtain ⟨⟨ea,ep⟩,-⟩:=i0
 obtain ⟨r,h1,-⟩:=lF (f:=fun w=>ny s.bb (len_ aP s.bb) s.aR w) (fun i=>0≤i∧i≤s.bb.length) (fun i=>(s.bb.length-i).toNat) (fun _=>True) (fun i an=>by
  obtain ⟨h0,h1⟩:=an
  by_cases h2:i<(s.bb.length:Int)
  ·have hw:ai (i+1)=i+1:=cr (by omega) (by omega)
   obtain ⟨x,I⟩ : ∃x,s.bb[i.toNat]? = some x:=⟨_,List.getElem?_eq_getElem (by omega)⟩
   obtain ⟨p,aa⟩:=Dy x (ep x (List.mem_of_getElem? I)).1
   obtain ⟨q,aD⟩:=Dl ⟨s.bb,s.aR⟩ x.eM ea
   unfold ny
   simp only [cX,h2,h0,hw,I,aa,aD,decide_true,if_true,and_self,Option.bind_eq_bind,Option.bind_some]
   by_cases e:p=true
   ·rw [if_pos e]
    by_cases e2:(q != i)=true
    ·exact .inr ⟨_,by rw [if_pos e2],trivial⟩
    ·exact .inl ⟨i+1,by rw [if_neg e2],by omega,by omega⟩
   ·exact .inr ⟨_,by rw [if_neg e],trivial⟩
  ·exact .inr ⟨.inl (),by simp [ny,cX,h2],trivial⟩) 0 (by omega)
 exact ⟨r,h1⟩
def lG (eZ:List aM)(m:aX):Bool :=
 decide (0≤m.bi∧m.bi<eZ.length∧0≤m.bc∧m.bc<eZ.length∧1≤m.ee∧m.ee≤3) &&
 match eZ[m.bi.toNat]?,eZ[m.bc.toNat]? with
 | some a,some b=> !(a.dI == b.dI && a.dF == b.dF) && !(a.eB && b.eB)
 | _,_=>false
theorem Aq (s:bl)(m:aX):s6 s m=some (lG s.bb m):=by
 unfold s6 lG
 simp only [cX]
 by_cases h1:m.bi<0
 ·simp [h1];omega
 by_cases h2:(s.bb.length:Int)≤m.bi
 ·simp [h1,h2];omega
 by_cases af:m.bc<0
 ·simp [h1,h2,af];omega
 by_cases ax:(s.bb.length:Int)≤m.bc
 ·simp [h1,h2,af,ax];omega
 by_cases a8:m.ee<1
 ·simp [h1,h2,af,ax,a8];omega
 by_cases a4:3<m.ee
 ·simp [h1,h2,af,ax,a8,a4];omega
 obtain ⟨x,I⟩ : ∃x,s.bb[m.bi.toNat]? = some x:=⟨_,List.getElem?_eq_getElem (by omega)⟩
 obtain ⟨y,aI⟩ : ∃y,s.bb[m.bc.toNat]? = some y:=⟨_,List.getElem?_eq_getElem (by omega)⟩
 have bn:0≤m.bi∧m.bi<s.bb.length:=by omega
 have c4:0≤m.bc∧m.bc<s.bb.length:=by omega
 have hP:0≤m.bi∧m.bi<s.bb.length∧0≤m.bc∧m.bc<s.bb.length∧1≤m.ee∧m.ee≤3:=by omega
 rw [decide_eq_false h1,decide_eq_false h2,decide_eq_false af,decide_eq_false ax,decide_eq_false a8,decide_eq_false a4,decide_eq_true hP,if_pos bn,I]
 simp only [Bool.false_eq_true,if_false,Option.bind_eq_bind,Option.bind_some,Bool.true_and]
 rw [if_pos c4,aI]
 simp only [Option.bind_some]
 by_cases e1:x.dI=y.dI<;>by_cases e2:x.dF=y.dF<;>by_cases B6:x.eB=true<;>by_cases B7:y.eB=true<;>simp [e1,e2,B6,B7]
theorem JS (eZ:List aM)(dU:List aX)(aq:eZ.length≤6)(xv:dU.length≤8)(i:Int):
 s4 (ai (len_ aP eZ-1)) dU (len_ aU dU) eZ i =
 (mu dU eZ dU (len_ aU dU) i).map (Sum.map id (Sum.map id fun _=>())):=by
 have hw:ai ((eZ.length:Nat)-1)=(eZ.length:Nat)-1:=cr (by omega) (by omega)
 unfold s4 mu rq
 simp only [cX,hw,Aq,ob,Option.bind_eq_bind,Option.bind_some]
 by_cases h1:i<(dU.length:Int)
 ·by_cases h0:0≤i
  ·obtain ⟨m,hm⟩ : ∃x,dU[i.toNat]? = some x:=⟨_,List.getElem?_eq_getElem (by omega)⟩
   simp only [h1,h0,hm,decide_true,if_true,and_self,Option.bind_some]
   unfold lG
   by_cases hA:0≤m.bi∧m.bi≤(eZ.length:Int)-1
   ·by_cases i7:0≤m.bc∧m.bc≤(eZ.length:Int)-1
    ·by_cases fo:1≤m.ee∧m.ee≤3
     ·obtain ⟨x,I⟩ : ∃x,eZ[m.bi.toNat]? = some x:=⟨_,List.getElem?_eq_getElem (by omega)⟩
      obtain ⟨y,aI⟩ : ∃y,eZ[m.bc.toNat]? = some y:=⟨_,List.getElem?_eq_getElem (by omega)⟩
      have bn:0≤m.bi∧m.bi<eZ.length:=by omega
      have c4:0≤m.bc∧m.bc<eZ.length:=by omega
      have hP:0≤m.bi∧m.bi<eZ.length∧0≤m.bc∧m.bc<eZ.length∧1≤m.ee∧m.ee≤3:=by omega
      rw [decide_eq_true hA,decide_eq_true i7,decide_eq_true fo,decide_eq_true hP]
      simp only [if_true,Option.bind_some,Bool.true_and]
      rw [if_pos bn,I]
      simp only [Option.bind_some]
      rw [if_pos c4,aI]
      simp only [Option.bind_some]
      by_cases e1:x.dI=y.dI<;>by_cases e2:x.dF=y.dF<;>by_cases B6:x.eB=true<;>by_cases B7:y.eB=true<;>simp [e1,e2,B6,B7]
     ·have hP : ¬(0≤m.bi∧m.bi<eZ.length∧0≤m.bc∧m.bc<eZ.length∧1≤m.ee∧m.ee≤3):=by omega
      rw [decide_eq_true hA,decide_eq_true i7,decide_eq_false fo,decide_eq_false hP]
      simp
    ·have hP : ¬(0≤m.bi∧m.bi<eZ.length∧0≤m.bc∧m.bc<eZ.length∧1≤m.ee∧m.ee≤3):=by omega
     rw [decide_eq_true hA,decide_eq_false i7,decide_eq_false hP]
     simp
   ·have hP : ¬(0≤m.bi∧m.bi<eZ.length∧0≤m.bc∧m.bc<eZ.length∧1≤m.ee∧m.ee≤3):=by omega
    rw [decide_eq_false hA,decide_eq_false hP]
    simp
  ·simp [h1,h0]
 ·simp [h1]
theorem Da (eZ:List aM)(dU:List aX)(xv:dU.length≤8): ∃r,sT dU eZ dU (len_ aU dU) 0=some r∧ ∀k,r = .inr k→0≤k:=by
 exact lF (f:=fun w=>mu dU eZ dU (len_ aU dU) w) (fun i=>0≤i∧i≤dU.length) (fun i=>(dU.length-i).toNat) (fun r=> ∀k,r = .inr k→0≤k) (fun i an=>by
  obtain ⟨h0,h1⟩:=an
  by_cases h2:i<(dU.length:Int)
  ·have hw:ai (i+1)=i+1:=cr (by omega) (by omega)
   obtain ⟨x,I⟩ : ∃x,dU[i.toNat]? = some x:=⟨_,List.getElem?_eq_getElem (by omega)⟩
   unfold mu rq
   simp only [cX,h2,h0,hw,I,Aq,decide_true,if_true,and_self,Option.bind_eq_bind,Option.bind_some]
   by_cases e:(!lG eZ x)=true
   ·exact .inr ⟨_,by rw [if_pos e],by intro k aV;simp at aV;omega⟩
   ·exact .inl ⟨i+1,by rw [if_neg e],by omega,by omega⟩
  ·exact .inr ⟨.inl (),by simp [mu,cX,h2],by intro k aV;simp at aV⟩) 0 (by omega)
theorem ry (s:bl)(i0:jV s): ∃r,lc s=some r∧n3 s=some r:=by
 unfold lc n3
 by_cases h1:6<(s.bb.length:Int)
 ·exact ⟨false,by simp [cX,h1],by simp [cX,h1]⟩
 by_cases h2:8<(s.aR.length:Int)
 ·exact ⟨false,by simp [cX,h1,h2],by simp [cX,h1,h2]⟩
 obtain ⟨r,ak⟩:=Df s i0
 rw [Dm,ak]
 obtain ⟨q,aD,o6⟩:=Da s.bb s.aR (by omega)
 have O4:zC (ai (len_ aP s.bb-1)) s.aR (len_ aU s.aR) s.bb 0=some (Sum.map id (fun _=>()) q) :=
  LQ (f:=fun w=>mu s.aR s.bb s.aR (len_ aU s.aR) w) (Sum.map id fun _=>()) (fun _=>True) (fun _ _ _ _=>trivial)
   (fun i _=>JS s.bb s.aR (by omega) (by omega) i) 0 q aD trivial
 simp only [sU,sX,aD,O4,Option.bind_eq_bind,Option.bind_some]
 have d1:decide ((6:Int)<len_ aP s.bb)=false:=by rw [cX];exact decide_eq_false h1
 have d2:decide ((8:Int)<len_ aU s.aR)=false:=by rw [cX];exact decide_eq_false h2
 rw [d1,d2]
 simp only [Bool.false_eq_true,if_false]
 cases r with
 | inr a=>exact ⟨false,rfl,rfl⟩
 | inl a =>
  cases q with
  | inl b=>exact ⟨true,rfl,by simp⟩
  | inr k =>
   have:=o6 k rfl
   exact ⟨false,rfl,by simp [this]⟩
theorem Ad (j:aM)(h:lW j=some true): -50≤j.dI∧j.dI≤50∧ -50≤j.dF∧j.dF≤50:=by
 unfold lW at h
 cases a6:oP j.eM with
 | none=>simp [a6] at h
 | some r =>
  simp only [a6,ob,Option.bind_eq_bind,Option.bind_some] at h
  cases r with
  | false=>simp at h
  | true =>
   by_cases a : -50≤j.dI∧j.dI≤50
   ·by_cases b : -50≤j.dF∧j.dF≤50
    ·omega
    ·simp [a,b] at h
   ·simp [a] at h
theorem Lh (s:bl)(i0:jV s)(h:ps s.bb (len_ aP s.bb) s.aR 0=some (.inl ())): ∀(n:Nat) j,s.bb[n]? = some j→lW j=some true:=by
 have hm:=nC
 obtain ⟨⟨ea,ep⟩,-⟩:=i0
 obtain ⟨r,h1,h2⟩:=lF (f:=fun w=>ny s.bb (len_ aP s.bb) s.aR w) (fun i=>0≤i∧i≤s.bb.length∧ ∀(n:Nat) j,(n:Int)<i→s.bb[n]? = some j→lW j=some true) (fun i=>(s.bb.length-i).toNat)
  (fun r=>r = .inl ()→ ∀(n:Nat) j,s.bb[n]? = some j→lW j=some true) (fun i an=>by
  obtain ⟨h0,h1,af⟩:=an
  by_cases h2:i<(s.bb.length:Int)
  ·have hw:ai (i+1)=i+1:=cr (by omega) (by omega)
   obtain ⟨x,I⟩ : ∃x,s.bb[i.toNat]? = some x:=⟨_,List.getElem?_eq_getElem (by omega)⟩
   obtain ⟨p,aa⟩:=Dy x (ep x (List.mem_of_getElem? I)).1
   obtain ⟨q,aD⟩:=Dl ⟨s.bb,s.aR⟩ x.eM ea
   unfold ny
   simp only [cX,h2,h0,hw,I,aa,aD,decide_true,if_true,and_self,Option.bind_eq_bind,Option.bind_some]
   by_cases e:p=true
   ·rw [if_pos e]
    by_cases e2:(q != i)=true
    ·exact .inr ⟨_,by rw [if_pos e2],by simp⟩
    ·refine .inl ⟨i+1,by rw [if_neg e2],⟨by omega,by omega,fun n j a6 aq=> ?_⟩,by omega⟩
     by_cases c:(n:Int)<i
     ·exact af n j c aq
     ·have:n=i.toNat:=by omega
      subst this
      rw [I] at aq
      obtain rfl:=Option.some.inj aq
      rw [aa,e]
   ·exact .inr ⟨_,by rw [if_neg e],by simp⟩
  ·refine .inr ⟨.inl (),by simp [ny,cX,h2],fun _ n j aq=>af n j (by have:=ej aq;omega) aq⟩) 0 ⟨by omega,by omega,fun n j a6=>by omega⟩
 have mJ:ps s.bb (len_ aP s.bb) s.aR 0=some r:=h1
 rw [h] at mJ
 exact h2 (Option.some.inj mJ).symm
theorem KY (eZ:List aM)(dU:List aX)(xv:dU.length≤8)(h:sT dU eZ dU (len_ aU dU) 0=some (.inl ())): ∀(n:Nat) m,dU[n]? = some m→lG eZ m=true:=by
 obtain ⟨r,h1,h2⟩:=lF (f:=fun w=>mu dU eZ dU (len_ aU dU) w) (fun i=>0≤i∧i≤dU.length∧ ∀(n:Nat) m,(n:Int)<i→dU[n]? = some m→lG eZ m=true) (fun i=>(dU.length-i).toNat)
  (fun r=>r = .inl ()→ ∀(n:Nat) m,dU[n]? = some m→lG eZ m=true) (fun i an=>by
  obtain ⟨h0,h1,af⟩:=an
  by_cases h2:i<(dU.length:Int)
  ·have hw:ai (i+1)=i+1:=cr (by omega) (by omega)
   obtain ⟨x,I⟩ : ∃x,dU[i.toNat]? = some x:=⟨_,List.getElem?_eq_getElem (by omega)⟩
   unfold mu rq
   simp only [cX,h2,h0,hw,I,Aq,decide_true,if_true,and_self,Option.bind_eq_bind,Option.bind_some]
   by_cases e:(!lG eZ x)=true
   ·exact .inr ⟨_,by rw [if_pos e],by simp⟩
   ·refine .inl ⟨i+1,by rw [if_neg e],⟨by omega,by omega,fun n j a6 aq=> ?_⟩,by omega⟩
    by_cases c:(n:Int)<i
    ·exact af n j c aq
    ·have:n=i.toNat:=by omega
     subst this
     rw [I] at aq
     obtain rfl:=Option.some.inj aq
     simpa using e
  ·refine .inr ⟨.inl (),by simp [mu,cX,h2],fun _ n j aq=>af n j (by have:=ej aq;omega) aq⟩) 0 ⟨by omega,by omega,fun n j a6=>by omega⟩
 have mJ:sT dU eZ dU (len_ aU dU) 0=some r:=h1
 rw [h] at mJ
 exact h2 (Option.some.inj mJ).symm
theorem tj (s:bl)(i0:jV s)(h:lc s=some true):
 (∀(n:Nat) j,s.bb[n]? = some j→lW j=some true)∧(∀(n:Nat) m,s.aR[n]? = some m→lG s.bb m=true)∧s.bb.length≤6∧s.aR.length≤8:=by
 obtain ⟨p,p1,p2⟩:=ry s i0
 rw [h] at p1
 obtain rfl:=Option.some.inj p1
 unfold n3 at p2
 by_cases h1:6<(s.bb.length:Int)
 ·simp [cX,h1] at p2
 by_cases h2:8<(s.aR.length:Int)
 ·simp [cX,h1,h2] at p2
 obtain ⟨r,ak⟩:=Df s i0
 rw [Dm,ak] at p2
 obtain ⟨q,aD,o6⟩:=Da s.bb s.aR (by omega)
 have d1:decide ((6:Int)<len_ aP s.bb)=false:=by rw [cX];exact decide_eq_false h1
 have d2:decide ((8:Int)<len_ aU s.aR)=false:=by rw [cX];exact decide_eq_false h2
 rw [d1,d2] at p2
 simp only [sU,sX,aD,Bool.false_eq_true,if_false,Option.bind_eq_bind,Option.bind_some] at p2
 cases r with
 | inr a=>simp at p2
 | inl a =>
  cases q with
  | inr k =>
   have:=o6 k rfl
   simp [this] at p2
  | inl b=>exact ⟨Lh s i0 ak,KY s.bb s.aR (by omega) aD,by omega,by omega⟩
def jw (s:bl):Prop:=(∀(n:Nat) j,s.bb[n]? = some j→ -50≤j.dI∧j.dI≤50∧ -50≤j.dF∧j.dF≤50)∧(∀(n:Nat) m,s.aR[n]? = some m→lG s.bb m=true)∧s.bb.length≤6∧s.aR.length≤8
theorem JJ (s:bl)(i0:jV s)(h:lc s=some true):jw s:=by
 obtain ⟨f1,f2,f3,f4⟩:=tj s i0 h
 exact ⟨fun n j aq=>Ad j (f1 n j aq),f2,f3,f4⟩
theorem Mr (s:bl)(h:jw s)(k:Int)(h0:0≤k)(h1:k<s.aR.length):
 ∃x y,lV s k=some (x,y)∧(-100≤x∧x≤100)∧(-100≤y∧y≤100):=by
 obtain ⟨f1,f2,f3,f4⟩:=h
 obtain ⟨m,hm⟩ : ∃x,s.aR[k.toNat]? = some x:=⟨_,List.getElem?_eq_getElem (by omega)⟩
 have nr:=f2 _ m hm
 unfold lG at nr
 simp only [Bool.and_eq_true,decide_eq_true_eq] at nr
 obtain ⟨⟨g1,g2,g3,g4,-⟩,-⟩:=nr
 obtain ⟨a,bV⟩ : ∃x,s.bb[m.bi.toNat]? = some x:=⟨_,List.getElem?_eq_getElem (by omega)⟩
 obtain ⟨b,aE⟩ : ∃x,s.bb[m.bc.toNat]? = some x:=⟨_,List.getElem?_eq_getElem (by omega)⟩
 have GQ:=f1 _ a bV
 have GR:=f1 _ b aE
 have e1:ai (b.dI-a.dI)=b.dI-a.dI:=cr (by omega) (by omega)
 have e2:ai (b.dF-a.dF)=b.dF-a.dF:=cr (by omega) (by omega)
 have dE:0≤k∧k<s.aR.length:=⟨h0,h1⟩
 have bn:0≤m.bi∧m.bi<s.bb.length:=⟨g1,g2⟩
 have c4:0≤m.bc∧m.bc<s.bb.length:=⟨g3,g4⟩
 refine ⟨b.dI-a.dI,b.dF-a.dF,?_,by omega,by omega⟩
 unfold lV
 simp only [if_pos dE,hm,if_pos bn,if_pos c4,bV,aE,Option.bind_eq_bind,Option.bind_some,e1,e2]
theorem Ms (s:bl)(h:jw s)(k:Int)(h0:0≤k)(h1:k<s.aR.length){v:Int×Int}(aS:lV s k=some v):oO s k=some v:=by
 obtain ⟨f1,f2,f3,f4⟩:=h
 obtain ⟨m,hm⟩ : ∃x,s.aR[k.toNat]? = some x:=⟨_,List.getElem?_eq_getElem (by omega)⟩
 have nr:=f2 _ m hm
 unfold lG at nr
 simp only [Bool.and_eq_true,decide_eq_true_eq] at nr
 obtain ⟨⟨g1,g2,g3,g4,-⟩,-⟩:=nr
 obtain ⟨a,bV⟩ : ∃x,s.bb[m.bi.toNat]? = some x:=⟨_,List.getElem?_eq_getElem (by omega)⟩
 obtain ⟨b,aE⟩ : ∃x,s.bb[m.bc.toNat]? = some x:=⟨_,List.getElem?_eq_getElem (by omega)⟩
 have GQ:=f1 _ a bV
 have GR:=f1 _ b aE
 have e1:ai (b.dI-a.dI)=b.dI-a.dI:=cr (by omega) (by omega)
 have e2:ai (b.dF-a.dF)=b.dF-a.dF:=cr (by omega) (by omega)
 have dE:0≤k∧k<s.aR.length:=⟨h0,h1⟩
 have bn:0≤m.bi∧m.bi<s.bb.length:=⟨g1,g2⟩
 have c4:0≤m.bc∧m.bc<s.bb.length:=⟨g3,g4⟩
 have GS:lV s k=some (b.dI-a.dI,b.dF-a.dF):=by
  unfold lV
  simp only [if_pos dE,hm,if_pos bn,if_pos c4,bV,aE,Option.bind_eq_bind,Option.bind_some,e1,e2]
 rw [aS] at GS
 obtain rfl:=Option.some.inj GS
 unfold oO
 simp only [if_pos dE,hm,if_pos bn,if_pos c4,bV,aE,Option.bind_eq_bind,Option.bind_some,e1,e2]
theorem Li (s:bl)(i0:jV s)(h:lc s=some true)(k:Int)(h0:0≤k)(h1:k<s.aR.length):
 ∃x y,lV s k=some (x,y)∧oO s k=some (x,y)∧(-100≤x∧x≤100)∧(-100≤y∧y≤100):=by
 obtain ⟨f1,f2,f3,f4⟩:=tj s i0 h
 obtain ⟨m,hm⟩ : ∃x,s.aR[k.toNat]? = some x:=⟨_,List.getElem?_eq_getElem (by omega)⟩
 have nr:=f2 _ m hm
 unfold lG at nr
 simp only [Bool.and_eq_true,decide_eq_true_eq] at nr
 obtain ⟨⟨g1,g2,g3,g4,-⟩,-⟩:=nr
 obtain ⟨a,bV⟩ : ∃x,s.bb[m.bi.toNat]? = some x:=⟨_,List.getElem?_eq_getElem (by omega)⟩
 obtain ⟨b,aE⟩ : ∃x,s.bb[m.bc.toNat]? = some x:=⟨_,List.getElem?_eq_getElem (by omega)⟩
 have GQ:=Ad a (f1 _ a bV)
 have GR:=Ad b (f1 _ b aE)
 have e1:ai (b.dI-a.dI)=b.dI-a.dI:=cr (by omega) (by omega)
 have e2:ai (b.dF-a.dF)=b.dF-a.dF:=cr (by omega) (by omega)
 have dE:0≤k∧k<s.aR.length:=⟨h0,h1⟩
 have bn:0≤m.bi∧m.bi<s.bb.length:=⟨g1,g2⟩
 have c4:0≤m.bc∧m.bc<s.bb.length:=⟨g3,g4⟩
 refine ⟨b.dI-a.dI,b.dF-a.dF,?_,?_,by omega,by omega⟩
 ·unfold lV
  simp only [if_pos dE,hm,if_pos bn,if_pos c4,bV,aE,Option.bind_eq_bind,Option.bind_some,e1,e2]
 ·unfold oO
  simp only [if_pos dE,hm,if_pos bn,if_pos c4,bV,aE,Option.bind_eq_bind,Option.bind_some,e1,e2]
theorem FD {j k:Int}(h0:0≤j)(h:j<k):j*j<k*k:=Int.mul_self_lt_mul_self h0 h
theorem m8 {j k:Int}(h0:0≤j)(h:j≤k):j*j≤k*k:=Int.mul_self_le_mul_self h0 h
theorem EI {x:Int}(I:-100≤x∧x≤100):x*x≤10000∧0≤x*x:=by
 rcases Int.le_total 0 x with h|h
 ·have:=m8 h I.2;exact ⟨by omega,Int.mul_nonneg h h⟩
 ·have:=m8 (j:= -x) (k:=100) (by omega) (by omega)
  rw [Int.neg_mul_neg] at this
  exact ⟨by omega,Int.mul_nonneg_of_nonpos_of_nonpos h h⟩
theorem JT (s:bl)(i0:jV s)(left:Int)(h0:0≤left)(h1:left≤1048576)(q:Int)(aD:pt s left=some q):q≤1048576:=by
 obtain ⟨⟨ea,ep⟩,dq,gj⟩:=i0
 obtain ⟨r,r1,r2,bz⟩:=Dt s.bb left ea (fun j aq=>(ep j aq).1) h0 h1
 unfold pt at aD
 rw [r1] at aD
 by_cases h:r<0
 ·simp [h] at aD;omega
 ·obtain ⟨t,t1,t2,t3⟩:=Dp s.aR r dq (by omega) (by omega)
  by_cases bP:t<0
  ·simp [h,t1,bP] at aD;omega
  ·simp [h,t1,bP] at aD;omega
def GU (l:List Int)(n:Nat)(x:Int):Prop:=0≤x∧x<1000000000∧(∀z,l[n]? = some z→x=z)∧(l[n]? = none→x=0)
theorem GU.take {l:List Int}{n:Nat}{x:Int}(h:GU l n x):V (l.take (n+1))=V (l.take n)+B n*x:=L4 h.2.2.1 h.2.2.2
theorem DK {k N:Int}(h0:0≤k)(er:N≤20000)(h:k*k≤N):k≤141:=by
 rcases Int.lt_or_le 141 k with h1|h1
 ·have:=m8 (j:=142) (k:=k) (by omega) (by omega)
  omega
 ·exact h1
theorem Lj (N:Int)(er:N≤20000): ∃r,z5 N 1=some r∧(match r with | .inl _=> ∀k,1≤k→k*k≠N | .inr k=>1≤k∧k*k=N):=by
 exact lF (f:=fun w=>s7 N w) (fun k=>1≤k∧k≤142∧ ∀j,1≤j→j<k→j*j<N) (fun k=>(142-k).toNat)
  (fun r=>match r with | .inl _=> ∀k,1≤k→k*k≠N | .inr k=>1≤k∧k*k=N) (fun k aV=>by
  obtain ⟨h1,h2,af⟩:=aV
  have BV:k*k≤142*142:=m8 (by omega) h2
  have sy:0≤k*k:=Int.mul_nonneg (by omega) (by omega)
  have hw:ai (k*k)=k*k:=cr (by omega) (by omega)
  have B8:ai (k+1)=k+1:=cr (by omega) (by omega)
  unfold s7
  rw [hw,B8]
  by_cases a:k*k≤N
  ·have:=DK (by omega) er a
   by_cases b:k*k=N
   ·exact .inr ⟨.inr k,by simp [b],h1,b⟩
   ·refine .inl ⟨k+1,by simp [a,b],⟨by omega,by omega,fun j lS lO=> ?_⟩,by omega⟩
    rcases Int.lt_or_le j k with c|c
    ·exact af j lS c
    ·have:j=k:=by omega
     subst this;omega
  ·refine .inr ⟨.inl (),by simp [a],fun j lS=> ?_⟩
   rcases Int.lt_or_le j k with c|c
   ·have:=af j lS c;omega
   ·have:=m8 (j:=k) (k:=j) (by omega) c;omega) 1 ⟨by omega,by omega,fun j lS lO=>by omega⟩
theorem Lk (x y:Int)(I:-100≤x∧x≤100)(aI:-100≤y∧y≤100): ∃n,yQ x y 0=some n∧(0≤n∧n≤142∧x*x+y*y≤n*n∧ ∀j,0≤j→j<n→j*j<x*x+y*y):=by
 have Pr:x*x≤10000∧0≤x*x:=by
  rcases Int.le_total 0 x with h|h
  ·have:=m8 h I.2;exact ⟨by omega,Int.mul_nonneg h h⟩
  ·have:=m8 (j:= -x) (k:=100) (by omega) (by omega)
   rw [Int.neg_mul_neg] at this
   exact ⟨by omega,Int.mul_nonneg_of_nonpos_of_nonpos h h⟩
 have Ps:y*y≤10000∧0≤y*y:=by
  rcases Int.le_total 0 y with h|h
  ·have:=m8 h aI.2;exact ⟨by omega,Int.mul_nonneg h h⟩
  ·have:=m8 (j:= -y) (k:=100) (by omega) (by omega)
   rw [Int.neg_mul_neg] at this
   exact ⟨by omega,Int.mul_nonneg_of_nonpos_of_nonpos h h⟩
 have e1:ai (x*x)=x*x:=cr (by omega) (by omega)
 have e2:ai (y*y)=y*y:=cr (by omega) (by omega)
 have br:ai (x*x+y*y)=x*x+y*y:=cr (by omega) (by omega)
 exact lF (f:=fun w=>sY x y w) (fun n=>0≤n∧n≤142∧ ∀j,0≤j→j<n→j*j<x*x+y*y) (fun n=>(142-n).toNat)
  (fun n=>0≤n∧n≤142∧x*x+y*y≤n*n∧ ∀j,0≤j→j<n→j*j<x*x+y*y) (fun n a6=>by
  obtain ⟨h1,h2,af⟩:=a6
  have O5:n*n≤142*142:=m8 h1 h2
  have u6:0≤n*n:=Int.mul_nonneg h1 h1
  have hw:ai (n*n)=n*n:=cr (by omega) (by omega)
  have B8:ai (n+1)=n+1:=cr (by omega) (by omega)
  unfold sY
  rw [e1,e2,br,hw,B8]
  by_cases a:n*n<x*x+y*y
  ·have:=DK (N:=20000) h1 (by omega) (by omega)
   refine .inl ⟨n+1,by simp [a],⟨by omega,by omega,fun j lS lO=> ?_⟩,by omega⟩
   rcases Int.lt_or_le j n with c|c
   ·exact af j lS c
   ·have:j=n:=by omega
    subst this;omega
  ·exact .inr ⟨n,by simp [a],h1,h2,by omega,af⟩) 0 ⟨by omega,by omega,fun j lS lO=>by omega⟩
theorem AE (s:bl)(i0:jV s)(p1:lc s=some true)(k:Int)(h0:0≤k)(h1:k<s.aR.length): ∃l,ki s k=some l∧kO s k=some l∧0≤l∧l≤142:=by
 obtain ⟨-,-,-,Rn⟩:=tj s i0 p1
 have hw:ai ((s.aR.length:Nat)-1)=(s.aR.length:Nat)-1:=cr (by omega) (by omega)
 obtain ⟨x,y,v1,v2,I,aI⟩:=Li s i0 p1 k h0 h1
 have Pr:=EI I
 have Ps:=EI aI
 have e1:ai (x*x)=x*x:=cr (by omega) (by omega)
 have e2:ai (y*y)=y*y:=cr (by omega) (by omega)
 have br:ai (x*x+y*y)=x*x+y*y:=cr (by omega) (by omega)
 obtain ⟨r,r1,r2⟩:=Lj (x*x+y*y) (by omega)
 obtain ⟨n,n1,n2,Cl,GG,GV⟩:=Lk x y I aI
 have O5:n*n≤142*142:=m8 n2 Cl
 have u6:0≤n*n:=Int.mul_nonneg n2 n2
 have cS:ai (n*n)=n*n:=cr (by omega) (by omega)
 have hP:0≤k∧k≤(s.aR.length:Int)-1:=by omega
 refine ⟨if n*n=x*x+y*y then n else 0,?_,?_,by split<;>omega,by split<;>omega⟩
 ·unfold ki wi wh
  simp only [p1,ob,Option.bind_eq_bind,Option.bind_some,cX,hw]
  simp only [decide_eq_true hP,if_true,v2,Option.bind_some,e1,e2,br,wu,r1]
  by_cases e:n*n=x*x+y*y
  ·rw [if_pos e]
   cases r with
   | inl a =>
    rcases Int.lt_or_le 0 n with q|q
    ·exact absurd e (r2 n (by omega))
    ·have:n=0:=by omega
     subst this;rfl
   | inr a =>
    obtain ⟨ea,ep⟩:=r2
    have:a=n:=by
     rcases Int.lt_trichotomy a n with q|q|q
     ·have:=GV a (by omega) q;omega
     ·exact q
     ·have:=FD (j:=n) (k:=a) n2 q;omega
    subst this;rfl
  ·rw [if_neg e]
   cases r with
   | inl a=>rfl
   | inr a =>
    exfalso
    obtain ⟨ea,ep⟩:=r2
    rcases Int.lt_trichotomy a n with q|q|q
    ·have:=GV a (by omega) q;omega
    ·subst q;exact e ep
    ·have:=FD (j:=n) (k:=a) n2 q;omega
 ·simp only [Option.bind_eq_bind,Option.bind_some,kO,v1,n1,e1,e2,br,cS]
  by_cases e:n*n=x*x+y*y
  ·rw [if_pos e];simp [n1,e1,e2,br,e]
  ·rw [if_neg e];simp [n1,e1,e2,br,cS,e]
theorem rP (s:bl)(i0:jV s)(h:lc s=some true)(an:n3 s=some true)(k:Int)(RK:lK k)(num:Int)(a6:1≤num∧num≤100):
 (n0 s k=some false∧pA s k num=some false) ∨
 ∃m l,n0 s k=some true∧(0≤k∧k<s.aR.length)∧s.aR[k.toNat]? = some m∧kO s k=some l∧0≤l∧l≤142 ∧
  pA s k num=some (decide (0<l) && decide (l*num≤100)):=by
 have hm:=nC
 obtain ⟨-,jj,-⟩:=id i0
 have hw:ai ((s.aR.length:Nat)-1)=(s.aR.length:Nat)-1:=cr (by omega) (by omega)
 unfold n0 pA
 simp only [ob,cX,hw,Option.bind_eq_bind,Option.bind_some]
 by_cases c:0≤k∧k<s.aR.length
 ·have cw:0≤k∧k≤(s.aR.length:Int)-1:=by omega
  obtain ⟨m,qq⟩ : ∃x,s.aR[k.toNat]? = some x:=⟨_,List.getElem?_eq_getElem (by omega)⟩
  by_cases aV:m.ee=1
  ·right
   obtain ⟨r,r1,lz,mT,vF⟩:=AE s i0 h k c.1 c.2
   have aa:r*num≤142*100:=Int.mul_le_mul vF a6.2 (by omega) (by omega)
   have B9:0≤r*num:=Int.mul_nonneg mT (by omega)
   have O6:ai (r*num)=r*num:=cr (by omega) (by omega)
   refine ⟨m,r,?_,c,qq,lz,mT,vF,?_⟩
   ·simp only [decide_eq_true c.1,decide_eq_true c.2,if_true,if_pos c,qq,Option.bind_some,aV];rfl
   ·simp only [decide_eq_true cw,if_true,if_pos c,qq,Option.bind_some,aV,r1,O6]
    by_cases a:0<r<;>simp [a]
  ·left
   have e1:(m.ee == 1)=false:=by simpa using aV
   have e2:(m.ee != 1)=true:=by simpa using aV
   constructor
   ·simp only [decide_eq_true c.1,decide_eq_true c.2,if_true,if_pos c,qq,Option.bind_some,e1]
   ·simp only [decide_eq_true cw,if_true,if_pos c,qq,Option.bind_some,e2]
 ·left
  have cw : ¬(0≤k∧k≤(s.aR.length:Int)-1):=by omega
  refine ⟨?_,by simp [cw]⟩
  by_cases bn:0≤k
  ·have : ¬k<s.aR.length:=fun h=>c ⟨bn,h⟩
   simp [bn,this]
  ·simp [bn]
theorem Kl (s:bl)(i0:jV s)(b:bh)(sR:pS b): ∃p,mV s b=some p∧rI s b=some p:=by
 obtain ⟨p,p1,p2⟩:=ry s i0
 obtain ⟨lS,lO,GW,sO⟩:=sR
 unfold mV rI
 simp only [p1,p2,Option.bind_eq_bind,Option.bind_some]
 cases p with
 | false=>exact ⟨false,rfl,rfl⟩
 | true =>
  by_cases bn:b.bi=b.bc
  ·exact ⟨false,by simp [bn],by simp [bn]⟩
  by_cases c4:b.de<1∨b.cz<b.de∨100<b.cz
  ·refine ⟨false,?_,?_⟩
   ·by_cases a:b.de<1<;>by_cases cl:b.cz<b.de<;>by_cases qs:100<b.cz<;>simp [bn,a,cl,qs]<;>omega
   ·have e : ∀k,∃q,n0 s k=some q:=by
     intro k
     unfold n0
     simp only [cX]
     by_cases d1:0≤k
     ·by_cases d2:k<s.aR.length
      ·obtain ⟨m,qq⟩ : ∃x,s.aR[k.toNat]? = some x:=⟨_,List.getElem?_eq_getElem (by omega)⟩
       exact ⟨_,by simp [d1,d2,qq];rfl⟩
      ·exact ⟨_,by simp [d1,d2];rfl⟩
     ·exact ⟨_,by simp [d1];rfl⟩
    obtain ⟨sS,bV⟩:=e b.bi
    obtain ⟨x9,aE⟩:=e b.bc
    simp only [bV,aE,Option.bind_some]
    by_cases a:b.de<1<;>by_cases cl:b.cz<b.de<;>by_cases qs:100<b.cz<;>cases sS<;>cases x9<;>simp [bn,a,cl,qs]<;>omega
  have d1 : ¬b.de<1:=by omega
  have d2 : ¬b.cz<b.de:=by omega
  have d3 : ¬100<b.cz:=by omega
  rcases rP s i0 p1 p2 b.bi lS b.cz (by omega) with ⟨ea,ep⟩|⟨hT,jq,ea,ep,dq,gj,jS,qD,iE⟩
  ·exact ⟨false,by simp [bn,d1,d2,d3,ep],by simp [bn,ea]⟩
  rcases rP s i0 p1 p2 b.bc lO b.cz (by omega) with ⟨e1,e2⟩|⟨fv,kN,e1,e2,br,cS,ez,d5,gV⟩
  ·refine ⟨false,?_,by simp [bn,ea,e1]⟩
   simp only [iE,e2,Option.bind_some]
   by_cases q:(decide (0<jq) && decide (jq*b.cz≤100))=true<;>simp [bn,d1,d2,d3,q]
  obtain ⟨f1,f2,-⟩:=tj s i0 p1
  have g1:=f2 _ hT dq
  have g2:=f2 _ fv br
  unfold lG at g1 g2
  simp only [Bool.and_eq_true,decide_eq_true_eq] at g1 g2
  obtain ⟨⟨g11,g12,g13,g14,-⟩,-⟩:=g1
  obtain ⟨⟨g21,g22,g23,g24,-⟩,-⟩:=g2
  have aa:jq*b.cz≤142*100:=Int.mul_le_mul qD (by omega) (by omega) (by omega)
  have B9:0≤jq*b.cz:=Int.mul_nonneg jS (by omega)
  have aD:kN*b.cz≤142*100:=Int.mul_le_mul d5 (by omega) (by omega) (by omega)
  have o6:0≤kN*b.cz:=Int.mul_nonneg ez (by omega)
  have lA:ai (jq*b.cz)=jq*b.cz:=cr (by omega) (by omega)
  have jT:ai (kN*b.cz)=kN*b.cz:=cr (by omega) (by omega)
  simp only [iE,gV,ea,e1,dq,br,gj,cS,lA,jT,if_pos ep,if_pos e2,Option.bind_some,th]
  have vC : ¬fv.bc<0:=by omega
  have GX : ¬fv.bi<0:=by omega
  have e1:(b.bi == b.bc)=false:=by simpa using bn
  simp only [e1,decide_eq_false d1,decide_eq_false d2,decide_eq_false d3,Bool.false_eq_true,if_false,if_true]
  generalize O7:decide (0<jq)=lT
  generalize O8:decide (jq*b.cz≤100)=pi
  generalize O9:decide (0<kN)=vI
  generalize Pa:decide (kN*b.cz≤100)=vJ
  have f1:(if (hT.bi == fv.bi)=true then some fv.bc else if (hT.bi == fv.bc)=true then some fv.bi else some (-1:Int))=some (if hT.bi=fv.bi then fv.bc else if hT.bi=fv.bc then fv.bi else -1):=by
   simp only [beq_iff_eq];split
   ·rfl
   ·split<;>rfl
  have f2:(if (hT.bc == fv.bi)=true then some fv.bc else if (hT.bc == fv.bc)=true then some fv.bi else some (-1:Int))=some (if hT.bc=fv.bi then fv.bc else if hT.bc=fv.bc then fv.bi else -1):=by
   simp only [beq_iff_eq];split
   ·rfl
   ·split<;>rfl
  rw [f1,f2]
  simp only [Option.bind_some]
  have s1:decide ((if hT.bi=fv.bi then fv.bc else if hT.bi=fv.bc then fv.bi else (-1:Int))<0) = !(hT.bi == fv.bi || hT.bi == fv.bc):=by
   by_cases il:hT.bi=fv.bi
   ·rw [if_pos il,decide_eq_false vC,il];simp
   ·by_cases iF:hT.bi=fv.bc
    ·rw [if_neg il,if_pos iF,decide_eq_false GX,iF];simp
    ·rw [if_neg il,if_neg iF];simp [il,iF]
  have s2:decide ((if hT.bc=fv.bi then fv.bc else if hT.bc=fv.bc then fv.bi else (-1:Int))<0) = !(hT.bc == fv.bi || hT.bc == fv.bc):=by
   by_cases il:hT.bc=fv.bi
   ·rw [if_pos il,decide_eq_false vC,il];simp
   ·by_cases iF:hT.bc=fv.bc
    ·rw [if_neg il,if_pos iF,decide_eq_false GX,iF];simp
    ·rw [if_neg il,if_neg iF];simp [il,iF]
  rw [s1,s2]
  generalize (hT.bi == fv.bi)=il
  generalize (hT.bi == fv.bc)=iF
  generalize (hT.bc == fv.bi)=nv
  generalize (hT.bc == fv.bc)=nw
  clear O7 O8 O9 Pa s1 s2 f1 f2
  revert lT pi vI vJ il iF nv nw
  refine fun lT pi vI vJ il iF nv nw=>⟨(lT && pi && (vI && vJ)) && (il || iF || nv || nw),?_,?_⟩
  ·revert lT pi vI vJ il iF nv nw;decide
  ·revert lT pi vI vJ il iF nv nw;decide
theorem J2 (s:bl)(i0:jV s)(b:bh)(sR:pS b)(h:mV s b=some true):(0≤b.bi∧b.bi<s.aR.length)∧(0≤b.bc∧b.bc<s.aR.length):=by
 obtain ⟨p,p1,p2⟩:=ry s i0
 obtain ⟨lS,lO,GW,sO⟩:=sR
 unfold mV at h
 simp only [p1,Option.bind_eq_bind,Option.bind_some] at h
 cases p with
 | false=>simp at h
 | true =>
  by_cases bn:b.bi=b.bc
  ·simp [bn] at h
  by_cases c4:b.de<1∨b.cz<b.de∨100<b.cz
  ·by_cases a:b.de<1<;>by_cases cl:b.cz<b.de<;>by_cases qs:100<b.cz<;>simp [bn,a,cl,qs] at h<;>omega
  have d1 : ¬b.de<1:=by omega
  have d2 : ¬b.cz<b.de:=by omega
  have d3 : ¬100<b.cz:=by omega
  rcases rP s i0 p1 p2 b.bi lS b.cz (by omega) with ⟨ea,ep⟩|⟨hT,jq,ea,ep,dq,gj,jS,qD,iE⟩
  ·simp [bn,d1,d2,d3,ep] at h
  rcases rP s i0 p1 p2 b.bc lO b.cz (by omega) with ⟨e1,e2⟩|⟨fv,kN,e1,e2,br,cS,ez,d5,gV⟩
  ·simp only [iE,e2,Option.bind_some] at h
   by_cases q:(decide (0<jq) && decide (jq*b.cz≤100))=true<;>simp [bn,d1,d2,d3,q] at h
  exact ⟨ep,e2⟩
def mA (n:Int):Bool:=decide (-100≤n∧n≤100)
def ov (qG:Nat)(l:List Int):Bool:=decide (l.length=2*qG) && l.all mA
theorem KZ (n:Int):tJ n=some (mA n):=by
 unfold tJ mA
 by_cases h : -100≤n<;>simp [h]
theorem Ll (s:bl)(p:Bool)(aa:lc s=some p)(nx:p=true→s.bb.length≤6)(l:List Int)(aA:l.length≤maxLen):pF s l=some (p && ov s.bb.length l):=by
 have hm:=nC
 unfold pF
 simp only [aa,Option.bind_eq_bind,Option.bind_some,cX]
 cases p with
 | false=>rfl
 | true =>
  have nx:=nx rfl
  have hw:ai (2*((s.bb.length:Nat):Int))=2*((s.bb.length:Nat):Int):=cr (by omega) (by omega)
  rw [hw]
  unfold ov
  by_cases e:l.length=2*s.bb.length
  ·have h1:Aa l (l.length:Nat) 0=some (if l.all mA then .inl () else .inr ()):=by
    refine wS (f:=fun w=>rj l (l.length:Nat) w) l mA (fun n x I=> ?_) ?_
    ·have cE:=ej I
     unfold rj
     have c:(n:Int)<(l.length:Int):=by omega
     have cw:0≤(n:Int)∧(n:Int)<(l.length:Int):=by omega
     simp only [decide_eq_true c,if_true,if_pos cw,Int.toNat_natCast,I,Option.bind_eq_bind,Option.bind_some,ob]
     rw [i1 (by omega)]
     unfold mA
     by_cases q : -100≤x∧x≤100
     ·simp [q]
     ·rw [decide_eq_false q];simp
    ·simp [rj]
   have c:((l.length:Int) != 2*(s.bb.length:Int))=false:=by simp;omega
   simp only [c,h1,Bool.false_eq_true,if_false,if_true,Option.bind_some]
   cases l.all mA<;>simp [e]
  ·have c:((l.length:Int) != 2*(s.bb.length:Int))=true:=by simp;omega
   simp only [c,if_true]
   simp [e]
theorem KB (s:bl)(nx:s.bb.length≤6)(l:List Int)(aA:l.length≤maxLen):tA s l=some (ov s.bb.length l):=by
 have hm:=nC
 have hw:ai (2*((s.bb.length:Nat):Int))=2*((s.bb.length:Nat):Int):=cr (by omega) (by omega)
 unfold tA vP vS ov
 simp only [cX,hw,Option.bind_eq_bind]
 obtain ⟨r,h1,h2⟩:=Le (f:=fun w=>qO l (l.length:Nat) w) l (fun n=> !mA n) (fun n x I=>by
  have cE:=ej I
  unfold qO wb
  have c:(n:Int)<(l.length:Int):=by omega
  have cw:0≤(n:Int)∧(n:Int)<(l.length:Int):=by omega
  simp only [decide_eq_true c,if_true,if_pos cw,Int.toNat_natCast,I,Option.bind_eq_bind,Option.bind_some,KZ]
  rw [i1 (by omega)]
  cases mA x<;>rfl) (by simp [qO])
 have mJ:yB l (l.length:Nat) 0=some r:=h1
 rw [mJ]
 have NY:(l.any fun n=> !mA n) = !l.all mA:=by
  rw [List.not_all_eq_any_not]
 rw [NY] at h2
 by_cases e:l.length=2*s.bb.length
 ·have c:((l.length:Int) == 2*(s.bb.length:Int))=true:=by simp;omega
  rw [c]
  rcases h2 with ⟨k,rfl,aV,bV⟩|⟨rfl,bV⟩
  ·simp only [Bool.not_eq_true'] at bV
   simp [e,bV,aV]
  ·simp only [Bool.not_eq_false'] at bV
   simp [e,bV]
 ·have c:((l.length:Int) == 2*(s.bb.length:Int))=false:=by simp;omega
  rw [c]
  simp [e]
theorem jT {i:Int}{a:Nat}(h0:0≤i)(h1:i≤100)(bV:a≤1):ai (ai (2*i)+(a:Int))=(((2*i+a).toNat:Nat):Int):=by
 rw [cr (x:=2*i) (by omega) (by omega),cr (by omega) (by omega)]
 omega
theorem KC (l:List Int)(h:l.length≤1048576):tx l=some l:=by
 have aE : ∀(n:Nat) x (row:List Int),l[n]? = some x→row.length=l.length→pr l n row=some (.inl (((n+1:Nat):Int),row.set n x)):=by
  intro n x row I ak
  obtain ⟨a6,rfl⟩:=List.getElem?_eq_some_iff.1 I
  have hw:ai ((n:Int)+1)=((n+1:Nat):Int):=by rw [cr (by omega) (by omega)];rfl
  simp only [pr,cX,hw]
  simp [a6,ak]
 have he : ∀row:List Int,pr l l.length row=some (.inr row):=by
  intro row
  simp [pr,cX]
 have h1:zU l 0 (List.replicate (len_ eI l).toNat 0)=some l :=
  wH l (List.replicate (len_ eI l).toNat 0) (by simp [cX]) aE he
 unfold tx
 rw [h1,if_pos (by rw [cX];omega)]
 simp [cX]
theorem J3 (l:List aM)(h:l.length≤1048576):tl l=some l:=by
 have aE : ∀(n:Nat) x (row:List aM),l[n]? = some x→row.length=l.length→pp l n row=some (.inl (((n+1:Nat):Int),row.set n x)):=by
  intro n x row I ak
  obtain ⟨a6,rfl⟩:=List.getElem?_eq_some_iff.1 I
  have hw:ai ((n:Int)+1)=((n+1:Nat):Int):=by rw [cr (by omega) (by omega)];rfl
  simp only [pp,cX,hw,wt]
  simp [a6,ak]
 have he : ∀row:List aM,pp l l.length row=some (.inr row):=by
  intro row
  simp [pp,cX]
 have h1:zL l 0 (List.replicate (len_ aP l).toNat (⟨ByteArray.empty,0,0,false⟩:aM))=some l :=
  wH l _ (by simp [cX]) aE he
 unfold tl
 rw [h1,if_pos (by rw [cX];omega)]
 simp [cX]
theorem JU (l:List aX)(h:l.length≤1048576):tk l=some l:=by
 have aE : ∀(n:Nat) x (row:List aX),l[n]? = some x→row.length=l.length→po l n row=some (.inl (((n+1:Nat):Int),row.set n x)):=by
  intro n x row I ak
  obtain ⟨a6,rfl⟩:=List.getElem?_eq_some_iff.1 I
  have hw:ai ((n:Int)+1)=((n+1:Nat):Int):=by rw [cr (by omega) (by omega)];rfl
  simp only [po,cX,hw,wg]
  simp [a6,ak]
 have he : ∀row:List aX,po l l.length row=some (.inr row):=by
  intro row
  simp [po,cX]
 have h1:zA l 0 (List.replicate (len_ aU l).toNat (⟨0,0,0⟩:aX))=some l :=
  wH l _ (by simp [cX]) aE he
 unfold tk
 rw [h1,if_pos (by rw [cX];omega)]
 simp [cX]
theorem Jq (s:bl)(h1:s.bb.length≤1048576)(h2:s.aR.length≤1048576):tb s=some (s.bb,s.aR):=by
 simp [tb,J3 _ h1,JU _ h2]
def Ca (P:List (List Int)):kJ→Prop
 | none=>True
 | some (k,c)=> ∃x,P[k]? = some x∧x.length=c∧c≤1048576
theorem Ca.set {P:List (List Int)}{k:Nat}{x y:List Int}(I:P[k]? = some x)(aI:y.length=x.length){h:kJ}(dT:Ca P h):Ca (P.set k y) h:=by
 cases h with
 | none=>trivial
 | some p =>
  obtain ⟨j,c⟩:=p
  obtain ⟨z,h1,h2,af⟩:=dT
  by_cases aq:k=j
  ·subst aq
   rw [I] at h1
   obtain rfl:=Option.some.inj h1
   exact ⟨y,by rw [List.getElem?_set,if_pos rfl,if_pos (ej I)],by omega,af⟩
  ·exact ⟨z,by rw [List.getElem?_set,if_neg aq];exact h1,h2,af⟩
theorem FE (x:Int):(nL [x]).size=1:=rfl
theorem J4 {k:Int}(h:k≤1000000000000000000): ∃r,tD k=some r:=by
 unfold tD
 by_cases c:k≤0
 ·exact ⟨_,by rw [if_pos (by simpa using c)]⟩
 ·rw [if_neg (by simpa using c)]
  obtain ⟨r,r1,r2⟩:=lF (f:=fun w:Int×ByteArray=>rc w.1 w.2) (dS:=fun w=>0≤w.1∧(w.2.size:Int)+w.1≤1000000000000000000) (m:=fun w=>w.1.toNat)
   (fun r=>(r.size:Int)≤1000000000000000000) (by
     rintro ⟨a,o⟩ ⟨h1,h2⟩
     simp only at h1 h2
     by_cases bV:0<a
     ·have bg:a.tdiv 10=a / 10:=by rw [Int.tdiv_eq_ediv_of_nonneg h1]
      refine .inl ⟨(a / 10,nL [IntKind.wrap .u8 (ai ((48:Int)+(a.tmod (10:Int))))]++o),?_,⟨by simp only;omega,?_⟩,by simp only;omega⟩
      ·unfold rc
       simp only
       rw [if_pos (by simpa using bV),FE,if_pos (by omega),bg,cr (by omega) (by omega)]
      ·simp only [ByteArray.size_append,FE]
       omega
     ·exact .inr ⟨o,by simp [rc,bV],by omega⟩) (k,⟨#[]⟩) ⟨by simp only;omega,by
      have:(⟨#[]⟩:ByteArray).size=0:=rfl
      simp only [this];omega⟩
  unfold z1
  rw [r1]
  refine ⟨_,by
   simp only [Option.bind_eq_bind,Option.bind_some]
   rw [if_pos ?_]
   have:(⟨#[109]⟩:ByteArray).size=1:=rfl
   rw [this]
   omega⟩
theorem I6 {k:Int}{l:List aM}(h0:0≤k)(h:k+4*l.length≤1000000000000000000):
 ∃cc dy,ti k l=some (cc,dy)∧dy.length=l.length∧0≤cc∧cc≤k+4*l.length:=by
 obtain ⟨r,r1,r2⟩:=lF (f:=fun w:Int×Int×(List aM)=>pk w.1 w.2.1 w.2.2)
  (dS:=fun w=> ∃n:Nat,w.2.1=n∧n≤l.length∧w.2.2.length=l.length∧0≤w.1∧w.1≤k+4*n)
  (m:=fun w=>l.length-w.2.1.toNat) (fun r=>r.2.length=l.length∧0≤r.1∧r.1≤k+4*l.length) (by
    rintro ⟨a,i,row⟩ ⟨n,e1,e2,br,cS,ez⟩
    simp only at e1 br cS ez
    subst e1
    by_cases a6:n=l.length
    ·subst a6
     refine .inr ⟨(a,row),by simp [pk,br],br,cS,ez⟩
    ·have mI:n<row.length:=by omega
     obtain ⟨t,bP⟩:=J4 (k:=a) (by omega)
     have hw:ai ((n:Int)+1)=((n+1:Nat):Int):=by rw [cr (by omega) (by omega)];rfl
     have lA:ai (a+1)=a+1:=cr (by omega) (by omega)
     have jT:ai (a+1+1)=a+1+1:=cr (by omega) (by omega)
     have nZ:ai (a+1+1+1)=a+1+1+1:=cr (by omega) (by omega)
     have GP:ai (a+1+1+1+1)=a+1+1+1+1:=cr (by omega) (by omega)
     have key : ∃cL,pk a n row=some (.inl (a+1+1+1+1,((n+1:Nat):Int),cL))∧cL.length=row.length:=by
      unfold pk
      rw [if_pos (by simpa using mI),bP,lA,jT,nZ,GP,hw]
      simp only [Option.bind_eq_bind,Option.bind_some,Nat.zero_add,Int.toNat_natCast]
      rw [if_pos (by omega),List.getElem?_eq_getElem mI]
      simp only [Option.bind_some,List.getElem?_set_self mI,List.length_set,List.getElem?_set_self (show n<(row.set n _).length by simpa using mI),List.set_set]
      exact ⟨_,rfl,by simp⟩
     obtain ⟨cL,h1,h2⟩:=key
     refine .inl ⟨_,h1,⟨n+1,rfl,by omega,by simp only;omega,by simp only;omega,by simp only;omega⟩,by simp;omega⟩) (k,0,l) ⟨0,rfl,by omega,rfl,h0,by simp⟩
 obtain ⟨cc,dy⟩:=r
 exact ⟨cc,dy,by unfold ti zx;rw [r1];rfl,r2⟩
theorem I2 {k:Int}{l:List aX}(h0:0≤k)(h:k+3*l.length≤1000000000000000000):
 ∃cc dy,td k l=some (cc,dy)∧dy.length=l.length∧0≤cc∧cc≤k+3*l.length:=by
 obtain ⟨r,r1,r2⟩:=lF (f:=fun w:Int×Int×(List aX)=>pj w.1 w.2.1 w.2.2)
  (dS:=fun w=> ∃n:Nat,w.2.1=n∧n≤l.length∧w.2.2.length=l.length∧0≤w.1∧w.1≤k+3*n)
  (m:=fun w=>l.length-w.2.1.toNat) (fun r=>r.2.length=l.length∧0≤r.1∧r.1≤k+3*l.length) (by
    rintro ⟨a,i,row⟩ ⟨n,e1,e2,br,cS,ez⟩
    simp only at e1 br cS ez
    subst e1
    by_cases a6:n=l.length
    ·subst a6
     refine .inr ⟨(a,row),by simp [pj,br],br,cS,ez⟩
    ·have mI:n<row.length:=by omega
     have hw:ai ((n:Int)+1)=((n+1:Nat):Int):=by rw [cr (by omega) (by omega)];rfl
     have lA:ai (a+1)=a+1:=cr (by omega) (by omega)
     have jT:ai (a+1+1)=a+1+1:=cr (by omega) (by omega)
     have nZ:ai (a+1+1+1)=a+1+1+1:=cr (by omega) (by omega)
     have key : ∃cL,pj a n row=some (.inl (a+1+1+1,((n+1:Nat):Int),cL))∧cL.length=row.length:=by
      unfold pj
      rw [if_pos (by simpa using mI),lA,jT,nZ,hw]
      simp only [Nat.zero_add,Int.toNat_natCast]
      rw [if_pos (by omega),List.getElem?_eq_getElem mI]
      simp only [Option.bind_eq_bind,Option.bind_some,List.getElem?_set_self mI,List.length_set,List.getElem?_set_self (show n<(row.set n _).length by simpa using mI),List.set_set]
      exact ⟨_,rfl,by simp⟩
     obtain ⟨cL,h1,h2⟩:=key
     refine .inl ⟨_,h1,⟨n+1,rfl,by omega,by simp only;omega,by simp only;omega,by simp only;omega⟩,by simp;omega⟩) (k,0,l) ⟨0,rfl,by omega,rfl,h0,by simp⟩
 obtain ⟨cc,dy⟩:=r
 exact ⟨cc,dy,by unfold td zm;rw [r1];rfl,r2⟩
theorem IH {k:Int}{l:List aM}{m:List aX}(h0:0≤k)(h:k+4*l.length+3*m.length≤1000000000000000000):
 ∃cc dy bs,ri k l m=some (cc,dy,bs)∧dy.length=l.length∧bs.length=m.length∧0≤cc∧cc≤k+4*l.length+3*m.length:=by
 obtain ⟨hO,dy,e1,e2,br,cS⟩:=I6 (l:=l) h0 (by omega)
 obtain ⟨g8,bs,f1,f2,f3,f4⟩:=I2 (k:=hO) (l:=m) br (by omega)
 refine ⟨g8,dy,bs,?_,e2,f2,f3,by omega⟩
 unfold ri
 rw [e1]
 simp only [Option.bind_eq_bind,Option.bind_some]
 rw [f1]
 first
  | rfl
  | (rw [if_pos e2.symm];simp only [Option.bind_some];rw [if_pos f2.symm])
def marks (k:Int)(n:Nat):List Int:=(List.range n).map fun i:Nat=>k+(i:Int)
theorem nD (k:Int)(n:Nat):(marks k n).length=n:=by simp [marks]
theorem Lm {k:Int}{n i:Nat}(h:i<n):(marks k n)[i]? = some (k+i):=by
 unfold marks
 rw [List.getElem?_map,List.getElem?_range h]
 rfl
theorem K0 {k:Int}{l:List Int}{i:Nat}(h:i<l.length):(marks k i++l.drop i).set i (k+i)=marks k (i+1)++l.drop (i+1):=by
 unfold marks
 rw [List.range_succ,List.map_append,List.set_append_right _ _ (by simp)]
 rw [show i-(List.map (fun i:Nat=>k+(i:Int)) (List.range i)).length=0 by simp,List.drop_eq_getElem_cons h,List.set_cons_zero]
 simp
theorem Ai (k:Int):py [] k=some k:=by
 have h:v9 [] k=some ():=by
  unfold v9
  rw [iter]
  simp [vW,cX]
 simp [py,h]
theorem Ae {k:Int}{n:Nat}(h0:0≤k)(h:k+n≤1000000000000000000):px (marks k n) k=some (k+n):=by
 have:=AP (f:=fun w:Int×Int=>re (marks k n) w.1 w.2) (s:=fun i=>(k+(i:Int),(i:Int))) (r:= .inl (k+(n:Int))) n 0 (fun i _ an=> ?_) ?_
 ·unfold px z2
  have e:(k+((0:Nat):Int),((0:Nat):Int))=(k,0):=by simp
  rw [e] at this
  rw [this]
  rfl
 ·have hZ:i<n:=by omega
  unfold re
  simp only [cX,nD]
  rw [if_pos (by simpa using hZ),if_pos (by omega),Int.toNat_natCast,Lm hZ,cr (by omega) (by omega),cr (by omega) (by omega)]
  simp [Int.add_assoc]
 ·simp [re,cX,nD]
def hU:List aM→Nat→List Nat
 | [],_=>[]
 | x::l,n=>if x.eB then hU l (n+1) else n::hU l (n+1)
theorem AS : ∀(l:List aM) (n i:Nat),i∈hU l n→n≤i∧i<n+l.length
 | [],n,i,h=>by simp [hU] at h
 | x::l,n,i,h=>by
  rw [hU] at h
  simp only [List.length_cons]
  split at h
  ·have:=AS l (n+1) i h;omega
  ·rcases List.mem_cons.1 h with h|h
   ·omega
   ·have:=AS l (n+1) i h;omega
theorem EJ : ∀(l:List aM) (n:Nat),(hU l n).length≤l.length
 | [],n=>by simp [hU]
 | x::l,n=>by
  rw [hU]
  have:=EJ l (n+1)
  split<;>simp only [List.length_cons]<;>omega
theorem K1 {l:List aM}{n:Nat}{x:aM}(h:l[n]? = some x)(m:Nat):hU (l.drop n) m=if x.eB then hU (l.drop (n+1)) (m+1) else m::hU (l.drop (n+1)) (m+1):=by
 rw [EE h,hU]
theorem En {f:Int×List Int→Option ((Int×List Int)⊕List Int)}(eZ:List aM)(nx:eZ.length≤1000)
 (h : ∀(n:Nat) acc x,eZ[n]? = some x→f ((n:Int),acc)=if x.eB=true then some (.inl (ai ((n:Int)+1),acc)) else if (acc++[(n:Int)]).length*8≤140737488355328 then some (.inl (ai ((n:Int)+1),acc++[(n:Int)])) else none)
 (he : ∀acc,f ((eZ.length:Int),acc)=some (.inr acc)):iter f ((0:Int),[])=some ((hU eZ 0).map (fun n:Nat=>(n:Int))):=by
 obtain ⟨s,h1,h2⟩:=jr (fun (n:Nat) (acc:List Int)=>((n:Int),acc)) eZ.length (fun n acc=>acc++(hU (eZ.drop n) n).map (fun n:Nat=>(n:Int))=(hU eZ 0).map (fun n:Nat=>(n:Int))∧acc.length≤n) (fun acc=>acc) (f:=f) (fun n a6 acc gi=>by
  obtain ⟨gi,aA⟩:=gi
  have I:=List.getElem?_eq_getElem a6
  rw [K1 I] at gi
  rw [h n acc _ I,Ny (by omega)]
  by_cases c:eZ[n].eB=true
  ·rw [if_pos c] at gi ⊢
   exact ⟨_,rfl,gi,by omega⟩
  ·rw [if_neg c] at gi ⊢
   rw [if_pos (by simp only [List.length_append,List.length_cons,List.length_nil];omega)]
   refine ⟨_,rfl,?_,by simp only [List.length_append,List.length_cons,List.length_nil];omega⟩
   rw [List.append_assoc]
   exact gi) (fun acc _=>he acc) [] ⟨by rw [List.drop_zero];rfl,by simp⟩
 obtain ⟨h2,-⟩:=h2
 rw [List.drop_length] at h2
 simp only [hU,List.map_nil,List.append_nil] at h2
 subst h2
 exact h1
theorem Ay (s:bl)(nx:s.bb.length≤1000):pB s=some ((hU s.bb 0).map (fun n:Nat=>(n:Int))):=by
 unfold pB z6
 rw [cX,En s.bb nx (fun n acc x I=>by
  have a6:=ej I
  unfold s8
  exact gW (by omega) (cp (by omega) (bT (gt rfl I) rfl))) (fun acc=>by
  unfold s8
  exact fu (by omega) rfl)]
 rfl
theorem Du (s:bl)(nx:s.bb.length≤1000):qS s=some ((hU s.bb 0).map (fun n:Nat=>(n:Int))):=by
 unfold qS yG
 rw [cX,En s.bb nx (fun n acc x I=>by
  have a6:=ej I
  unfold sV
  exact gW (by omega) (cp (by omega) (bT (gt rfl I) rfl))) (fun acc=>by
  unfold sV
  exact fu (by omega) rfl)]
 rfl
theorem wj {k:Int}{l:List Int}(h0:0≤k)(h:k+l.length≤1000000000000000000):n4 k l=some (k+l.length,marks k l.length):=by
 have:=AP (f:=fun w:Int×Int×(List Int)=>q3 w.1 w.2.1 w.2.2) (s:=fun n=>(k+(n:Int),(n:Int),marks k n++l.drop n)) (r:=(k+(l.length:Int),marks k l.length)) l.length 0 (fun i _ an=> ?_) ?_
 ·unfold n4 zP
  have e:(k+((0:Nat):Int),((0:Nat):Int),marks k 0++l.drop 0)=(k,0,l):=by simp [marks]
  rw [e] at this
  rw [this]
  rfl
 ·have hZ:i<l.length:=by omega
  have aA:(marks k i++l.drop i).length=l.length:=by simp [nD];omega
  unfold q3
  simp only [aA]
  rw [if_pos (by simpa using hZ),if_pos (by omega),Nat.zero_add,Int.toNat_natCast,if_pos (by omega),K0 hZ,cr (by omega) (by omega),cr (by omega) (by omega)]
  simp only [Int.natCast_add,Int.add_assoc]
  rfl
 ·simp [q3,nD]
theorem Dq (p:iH)(h1:p.bi.length≤1048576)(h2:p.bc.length≤1048576)(af:p.oK.length≤1048576):rB p p=some true:=by
 unfold rB
 exact hn (mQ rfl) (hn (mQ rfl) (bT (tO _ h1) (fN rfl (bT (tO _ h2) (fN rfl (bT (tO _ af) (fN rfl rfl)))))))
theorem Dr {k a b:Int}{x y z:Nat}(h0:0≤k)(h:k+x+y+z≤1000000000000000000):pu ⟨a,b,marks k x,marks (k+x) y,marks (k+x+y) z⟩ k=some (k+x+y+z):=by
 unfold pu
 exact bT (Ae h0 (by omega)) (fu (by omega) (bT (Ae (by omega) (by omega)) (fu (by omega) (bT (Ae (by omega) (by omega)) (fu (by omega) rfl)))))
structure NZ (m N:Nat) (A:Nat→Nat→Rat) (t:cA):Prop where
 ok:ex m m N A t
 nY:t.iL m N
 GY:t.D m A≠0
theorem set_set {α:Type}(l:List α)(i:Nat)(x y:α):(l.set i x).set i y=l.set i y:=by
 rw [List.set_set]
def oz (h:Nat→Nat)(t:cA):cA:=⟨fun i j=>t.T (h i) j,fun i=>t.B (h i)⟩
theorem EK {h:Nat→Nat}{t:cA}{r k i:Nat}(dT:h i=h r→i=r):(∀j,((oz h t).dp r k).T i j=(oz h (t.dp (h r) k)).T i j)∧((oz h t).dp r k).B i=(oz h (t.dp (h r) k)).B i:=by
 simp only [cA.dp,oz]
 by_cases c:i=r
 ·subst c;simp
 ·have:h i≠h r:=fun e=>c (dT e)
  simp [c,this]
structure sf (m n N:Nat) (A:Nat→Nat→Rat) (t:cA) (bs:Nat) (h:Nat→Nat):Prop where
 inv:NZ m N A t
 z : ∀i,i<m→n≤t.B i→t.T i N=0
 le:bs≤m
 lt : ∀i,i<bs→h i<m
 inj : ∀i,i<bs→ ∀k,k<bs→h i=h k→i=k
 dead : ∀d,d<m→(∀i,i<bs→h i≠d)→n≤t.B d∧ ∀j,j<n→t.T d j=0
theorem sf.dp {m n N bs:Nat}{A:Nat→Nat→Rat}{t:cA}{h:Nat→Nat}(Ro:n≤N)(a:sf m n N A t bs h){r k:Nat}(ak:r<bs)(aV:k<n)(aE:n≤t.B (h r))(aa:t.T (h r) k≠0):sf m n N A (t.dp (h r) k) bs h:=by
 have cn:=a.z (h r) (a.lt r ak) aE
 have dH : ∀i,(t.dp (h r) k).T i N=t.T i N:=fun i=>by
  simp only [cA.dp]
  split
  ·rename_i e;rw [e,cn];grind
  ·rw [cn];grind
 refine ⟨⟨a.inv.ok.dp (a.lt r ak) (by omega) aa,fun i an=>by rw [dH];exact a.inv.nY i an,?_⟩,fun i an i7=> ?_,a.le,a.lt,a.inj,fun d bg hg=> ?_⟩
 ·rw [a.inv.ok.FC (a.lt r ak) (by omega)]
  have:=a.inv.GY
  grind
 ·rw [dH]
  simp only [cA.dp] at i7
  by_cases c:i=h r
  ·rw [if_pos c] at i7;omega
  ·rw [if_neg c] at i7;exact a.z i an i7
 ·obtain ⟨h1,h2⟩:=a.dead d bg hg
  have cb:d≠h r:=fun e=>hg r ak e.symm
  simp only [cA.dp,if_neg cb]
  refine ⟨h1,fun j aq=> ?_⟩
  rw [h2 j aq,h2 k aV];grind
theorem oW {α:Type}(n:Nat)(x:α):List.replicate n x=a3 n fun _=>x:=by
 apply List.ext_getElem?
 intro i
 by_cases c:i<n
 ·rw [kn c];simp [c]
 ·rw [List.getElem?_eq_none_iff.2 (by simp;omega),List.getElem?_eq_none_iff.2 (by rw [d7];omega)]
structure nT (m:Nat) (u v:cA):Prop where
 T : ∀i,i<m→ ∀j,u.T i j=v.T i j
 B : ∀i,i<m→u.B i=v.B i
theorem nT.dp {m:Nat}{u v:cA}(s:nT m u v){r:Nat}(ak:r<m)(k:Nat):nT m (u.dp r k) (v.dp r k) where
 T:=fun i an j=>by simp only [cA.dp,s.T i an,s.T r ak]
 B:=fun i an=>by simp only [cA.dp,s.B i an]
theorem nT.trans {m:Nat}{u v t:cA}(a:nT m u v)(b:nT m v t):nT m u t:=⟨fun i an j=>(a.T i an j).trans (b.T i an j),fun i an=>(a.B i an).trans (b.B i an)⟩
theorem Mt {bs:Nat}{g:Nat→Nat}(inj:∀i,i<bs→ ∀k,k<bs→g i=g k→i=k)(t:cA){r:Nat}(ak:r<bs)(k:Nat):nT bs ((oz g t).dp r k) (oz g (t.dp (g r) k)) :=
 ⟨fun i an j=>(EK (t:=t) (k:=k) (inj i an r ak)).1 j,fun i an=>(EK (t:=t) (k:=k) (inj i an r ak)).2⟩
theorem sf.step {m n:Nat}{a:Nat→Nat→Int}{b:Nat→Int}{t:cA}{bs:Nat}{g:Nat→Nat}{K:Nat}{obj:Nat→Nat→Rat}{bu:Nat→Prop}(h:sf m n (n+m) (gC m n a b) t bs g)(i7:∀i,i<bs→t.B (g i)<n){u:cA}(cf:nT bs u (oz g t)){r s:Nat}(cq:o1 bs (n+m) K obj bu u r s)(xM:s<n):
 sf m n (n+m) (gC m n a b) (t.dp (g r) s) bs g∧(∀i,i<bs→(t.dp (g r) s).B (g i)<n)∧nT bs (u.dp r s) (oz g (t.dp (g r) s)):=by
 have ak:=cq.ak
 have aa:0<t.T (g r) s:=by have:=cq.pos;rw [cf.T r ak] at this;exact this
 have B9:t.T (g r) s≠0:=by grind
 have FW:=(cf.dp ak s).trans (Mt h.inj t ak s)
 have ya : ∀d,d<m→(∀i,i<bs→g i≠d)→ ∀j,(t.dp (g r) s).T d j=t.T d j∧(t.dp (g r) s).B d=t.B d:=fun d bg hg j=>by
  obtain ⟨d1,d2⟩:=h.dead d bg hg
  simp only [cA.dp]
  rw [if_neg fun e=>hg r ak e.symm,if_neg fun e=>hg r ak e.symm,d2 s xM]
  exact ⟨by grind,rfl⟩
 have mG : ∀i,i<bs→(t.dp (g r) s).B (g i)<n:=fun i an=>by
  simp only [cA.dp]
  split
  ·exact xM
  ·exact i7 i an
 have Pb:(u.dp r s).iL bs (n+m):=cq.Bp fun i an=>by rw [cf.T i an];exact h.inv.nY _ (h.lt i an)
 refine ⟨⟨⟨h.inv.ok.dp (h.lt r ak) (by omega) B9,fun i an=> ?_,?_⟩,fun i an a6=> ?_,h.le,h.lt,h.inj,fun d bg hg=> ?_⟩,mG,FW⟩
 ·by_cases bu : ∃q,q<bs∧g q=i
  ·obtain ⟨q,aD,rfl⟩:=bu
   have:=Pb q aD
   rw [FW.T q aD] at this;exact this
  ·rw [(ya i an (fun q aD e=>bu ⟨q,aD,e⟩) _).1];exact h.inv.nY i an
 ·rw [h.inv.ok.FC (h.lt r ak) (by omega)]
  have:=h.inv.GY
  grind
 ·by_cases bu : ∃q,q<bs∧g q=i
  ·obtain ⟨q,aD,rfl⟩:=bu
   have:=mG q aD;omega
  ·have hg : ∀q,q<bs→g q≠i:=fun q aD e=>bu ⟨q,aD,e⟩
   obtain ⟨e1,e2⟩:=ya i an hg (n+m)
   rw [e1]
   rw [e2] at a6
   exact h.z i an a6
 ·obtain ⟨d1,d2⟩:=h.dead d bg hg
  refine ⟨by rw [(ya d bg hg 0).2];exact d1,fun j aq=>by rw [(ya d bg hg j).1];exact d2 j aq⟩
def o5 (k:Nat)(x:aX):List cu:=(if x.ee=2 then [] else [⟨(k:Int),1⟩])++(if x.ee=1 then [] else [⟨(k:Int),-1⟩])
def iw (dU:List aX):Nat→List cu
 | 0=>[]
 | n+1=>iw dU n++(match dU[n]? with
  | some x=>o5 n x
  | none=>[])
theorem wU (dU:List aX): ∀n,(iw dU n).length≤2*n
 | 0=>by simp [iw]
 | n+1=>by
  have:=wU dU n
  rw [iw,List.length_append]
  have h2:(match dU[n]? with
   | some x=>o5 n x
   | none=>[]).length≤2:=by
   split
   ·rename_i x _;unfold o5;rw [List.length_append];split<;>split<;>simp
   ·simp
  omega
theorem EL {dU:List aX}: ∀ {n:Nat} {c:cu},n≤dU.length→c∈iw dU n→ ∃k:Nat,c.iU=k∧k<n∧(c.mF=1∨c.mF = -1)
 | 0,c,_,h=>by simp [iw] at h
 | n+1,c,a6,h=>by
  rw [iw,List.mem_append] at h
  rcases h with h|h
  ·obtain ⟨k,h1,h2,af⟩:=EL (by omega) h
   exact ⟨k,h1,by omega,af⟩
  ·rw [List.getElem?_eq_getElem (by omega)] at h
   simp only [o5,List.mem_append] at h
   rcases h with h|h
   ·split at h
    ·simp at h
    ·simp at h;subst h;exact ⟨n,rfl,by omega,.inl rfl⟩
   ·split at h
    ·simp at h
    ·simp at h;subst h;exact ⟨n,rfl,by omega,.inr rfl⟩
theorem D3 (s:bl)(cG:s.aR.length≤1000):q4 s=some (iw s.aR s.aR.length):=by
 unfold q4 yI
 rw [cX]
 obtain ⟨x,e,-⟩:=jr (f:=fun w:Int×List cu=>qR s.aR (s.aR.length:Nat) w.1 w.2) (fun (n:Nat) (_:Unit)=>((n:Int),iw s.aR n)) s.aR.length (fun _ _=>True) (fun _=>iw s.aR s.aR.length)
  (fun n a6 _ _=>by
    refine ⟨(),?_,trivial⟩
    have I:=List.getElem?_eq_getElem a6
    have aA:=wU s.aR n
    have e1:iw s.aR (n+1)=iw s.aR n++o5 n s.aR[n]:=by rw [iw,I]
    unfold qR
    refine gW (by simp only;omega) (cp (by simp only;omega) (bT (x:=s.aR[n]) (by simp only;rw [Int.toNat_natCast];exact I) ?_))
    simp only
    rw [hY (by omega),e1]
    unfold o5
    by_cases bn:s.aR[n].ee=2
    ·rw [if_pos bn]
     refine hn (mQ bn) (fN (sI (by omega)) (cp (by simp only [List.length_append,List.length_cons,List.length_nil];omega) ?_))
     rw [if_neg (by omega)];simp
    ·rw [if_neg bn]
     refine fN (sI bn) (cp (by simp only [List.length_append,List.length_cons,List.length_nil];omega) ?_)
     by_cases c4:s.aR[n].ee=1
     ·refine hn (mQ c4) ?_
      rw [if_pos c4];simp
     ·refine fN (sI c4) (cp (by simp only [List.length_append,List.length_cons,List.length_nil];omega) ?_)
      rw [if_neg c4];simp)
  (fun _ _=>by unfold qR;exact fu (by simp) rfl) () trivial
 exact bT e rfl
theorem Dv (s:bl)(cG:s.aR.length≤1000):rz s=some ((iw s.aR s.aR.length).map cu.iU,(iw s.aR s.aR.length).map cu.mF):=by
 unfold rz zN
 rw [cX]
 obtain ⟨x,e,-⟩:=jr (f:=fun w:Int×List Int×List Int=>qV s.aR (s.aR.length:Nat) w.1 w.2.1 w.2.2) (fun (n:Nat) (_:Unit)=>((n:Int),(iw s.aR n).map cu.iU,(iw s.aR n).map cu.mF)) s.aR.length (fun _ _=>True) (fun _=>((iw s.aR s.aR.length).map cu.iU,(iw s.aR s.aR.length).map cu.mF))
  (fun n a6 _ _=>by
    refine ⟨(),?_,trivial⟩
    have I:=List.getElem?_eq_getElem a6
    have aA:=wU s.aR n
    have e1:iw s.aR (n+1)=iw s.aR n++o5 n s.aR[n]:=by rw [iw,I]
    unfold qV
    refine gW (by simp only;omega) (cp (by simp only;omega) (bT (x:=s.aR[n]) (by simp only;rw [Int.toNat_natCast];exact I) ?_))
    simp only
    rw [hY (by omega),e1]
    unfold o5
    by_cases bn:s.aR[n].ee=2
    ·rw [if_pos bn]
     refine hn (mQ bn) (fN (sI (by omega)) (cp (by simp only [List.length_append,List.length_map,List.length_cons,List.length_nil];omega) (cp (by simp only [List.length_append,List.length_map,List.length_cons,List.length_nil];omega) ?_)))
     rw [if_neg (by omega)];simp
    ·rw [if_neg bn]
     refine fN (sI bn) (cp (by simp only [List.length_append,List.length_map,List.length_cons,List.length_nil];omega) (cp (by simp only [List.length_append,List.length_map,List.length_cons,List.length_nil];omega) ?_))
     by_cases c4:s.aR[n].ee=1
     ·refine hn (mQ c4) ?_
      rw [if_pos c4];simp
     ·refine fN (sI c4) (cp (by simp only [List.length_append,List.length_map,List.length_cons,List.length_nil];omega) (cp (by simp only [List.length_append,List.length_map,List.length_cons,List.length_nil];omega) ?_))
      rw [if_neg c4];simp)
  (fun _ _=>by unfold qV;exact fu (by simp) rfl) () trivial
 exact bT e rfl
theorem w4 {α:Type}(a b:Nat)(f:Nat→α):a3 (a+b) f=a3 a f++a3 b (fun j=>f (a+j)):=by
 induction b with
 | zero=>simp [a3]
 | succ b ih=>rw [← Nat.add_assoc,oa,ih,oa,List.append_assoc]
def jd (s:bl)(k:Nat):Int×Int:=(lV s k).getD (0,0)
theorem AU (s:bl)(h:jw s)(k:Nat)(aV:k<s.aR.length):lV s k=some (jd s k)∧(-100≤(jd s k).1∧(jd s k).1≤100)∧(-100≤(jd s k).2∧(jd s k).2≤100):=by
 obtain ⟨x,y,h1,af,ax⟩:=Mr s h k (by omega) (by omega)
 have e:jd s k=(x,y):=by unfold jd;rw [h1];rfl
 rw [e];exact ⟨h1,af,ax⟩
def fL (s:bl)(j:Int)(gk k:Nat):Int :=
 match s.aR[k]? with
 | none=>0
 | some x=>if j=x.bi then (if gk=0 then (jd s k).1 else (jd s k).2) else if j=x.bc then -(if gk=0 then (jd s k).1 else (jd s k).2) else 0
theorem MZ (s:bl)(h:jw s)(j:Int)(gk k:Nat): -100≤fL s j gk k∧fL s j gk k≤100:=by
 unfold fL
 split
 ·omega
 ·rename_i x I
  obtain ⟨-,af,ax⟩:=AU s h k (ej I)
  split
  ·split<;>omega
  ·split
   ·split<;>omega
   ·omega
theorem Mu (s:bl)(h:jw s)(j:Int)(q1:List Int)(q2 cg:Int)(dM:List Int):
 wa j q1 q2 cg s.aR (len_ aU s.aR) s.bb dM 0 ([]:List Int) ([]:List Int)=some (a3 s.aR.length (fL s j 0),a3 s.aR.length (fL s j 1)):=by
 obtain ⟨-,-,f3,f4⟩:=id h
 unfold wa
 rw [cX]
 obtain ⟨x,e,-⟩:=jr (f:=fun w:Int×List Int×List Int=>rf j q1 q2 cg s.aR (s.aR.length:Nat) s.bb dM w.1 w.2.1 w.2.2) (fun (n:Nat) (_:Unit)=>((n:Int),a3 n (fL s j 0),a3 n (fL s j 1))) s.aR.length (fun _ _=>True) (fun _=>(a3 s.aR.length (fL s j 0),a3 s.aR.length (fL s j 1)))
  (fun n a6 _ _=>by
    refine ⟨(),?_,trivial⟩
    have I:=List.getElem?_eq_getElem a6
    obtain ⟨v1,v3,v4⟩:=AU s h n a6
    have v2:=Ms s h n (by omega) (by omega) v1
    unfold rf
    refine gW (by simp only;omega) (cp (by simp only;omega) (bT (x:=s.aR[n]) (by simp only;rw [Int.toNat_natCast];exact I) (bT (x:=jd s n) v2 ?_)))
    simp only
    rw [hY (by omega),oa,oa]
    have g : ∀(F:Nat→Int) (v:Int),(a3 n F++[v]).length*8≤140737488355328:=fun F v=>by simp only [List.length_append,d7,List.length_cons,List.length_nil];omega
    by_cases bn:j=s.aR[n].bi
    ·have e0 : ∀gk,fL s j gk n=if gk=0 then (jd s n).1 else (jd s n).2:=fun gk=>by unfold fL;rw [I];simp only [if_pos bn]
     refine fN (xQ bn) (cp (g _ _) (cp (g _ _) ?_))
     rw [e0,e0];rfl
    ·refine hn (xR bn) ?_
     by_cases c4:j=s.aR[n].bc
     ·have e0 : ∀gk,fL s j gk n = -(if gk=0 then (jd s n).1 else (jd s n).2):=fun gk=>by unfold fL;rw [I];simp only [if_neg bn,if_pos c4]
      refine fN (xQ c4) (cp (g _ _) (cp (g _ _) ?_))
      rw [e0,e0,cr (by omega) (by omega),cr (by omega) (by omega)]
      simp
     ·have e0 : ∀gk,fL s j gk n=0:=fun gk=>by unfold fL;rw [I];simp only [if_neg bn,if_neg c4]
      refine hn (xR c4) (cp (g _ _) (cp (g _ _) ?_))
      rw [e0,e0])
  (fun _ _=>by unfold rf;exact fu (by simp) rfl) () trivial
 exact e
theorem Mv (s:bl)(h:jw s)(j:Int)(q1:List Int)(q2 cg:Int)(dM:List (List Int)):
 vR s.bb s.aR j q1 q2 cg (len_ aU s.aR) dM 0 (a3 s.aR.length fun _=>(0:Int)) (a3 s.aR.length fun _=>(0:Int))=some (a3 s.aR.length (fL s j 0),a3 s.aR.length (fL s j 1)):=by
 obtain ⟨-,-,f3,f4⟩:=id h
 unfold vR
 rw [cX]
 obtain ⟨x,e,-⟩:=jr (f:=fun w:Int×List Int×List Int=>qP s.bb s.aR j q1 q2 cg (s.aR.length:Nat) dM w.1 w.2.1 w.2.2) (fun (n:Nat) (_:Unit)=>((n:Int),(a3 s.aR.length fun k=>if k<n then fL s j 0 k else 0),a3 s.aR.length fun k=>if k<n then fL s j 1 k else 0)) s.aR.length (fun _ _=>True) (fun _=>(a3 s.aR.length (fL s j 0),a3 s.aR.length (fL s j 1)))
  (fun n a6 _ _=>by
    refine ⟨(),?_,trivial⟩
    have I:=List.getElem?_eq_getElem a6
    obtain ⟨v1,v3,v4⟩:=AU s h n a6
    have cq : ∀gk v,v=fL s j gk n→(a3 s.aR.length fun k=>if k<n then fL s j gk k else 0).set n v=a3 s.aR.length fun k=>if k<n+1 then fL s j gk k else 0:=fun gk v aS=>by
     rw [oV]
     refine gI fun k _=> ?_
     by_cases c:k=n
     ·subst c;rw [if_pos rfl,if_pos (by omega)];exact aS
     ·rw [if_neg c]
      by_cases c4:k<n
      ·rw [if_pos c4,if_pos (by omega)]
      ·rw [if_neg c4,if_neg (by omega)]
    have g1 : ∀F:Nat→Int,0≤((n:Nat):Int)∧((n:Nat):Int)<((a3 s.aR.length F).length:Nat):=fun F=>by rw [d7];omega
    have g2 : ∀F:Nat→Int,0+((n:Nat):Int).toNat<(a3 s.aR.length F).length:=fun F=>by rw [d7,Int.toNat_natCast];omega
    unfold qP
    refine gW (by simp only;omega) (cp (by simp only;omega) (bT (x:=s.aR[n]) (by simp only;rw [Int.toNat_natCast];exact I) (bT (x:=jd s n) v1 ?_)))
    simp only
    by_cases bn:j=s.aR[n].bi
    ·have e0 : ∀gk,fL s j gk n=if gk=0 then (jd s n).1 else (jd s n).2:=fun gk=>by unfold fL;rw [I];simp only [if_pos bn]
     refine fN (xQ bn) (cp (g1 _) (cp (g2 _) (cp (g1 _) (cp (g2 _) ?_))))
     rw [hY (by omega),Int.toNat_natCast,Nat.zero_add,cq 0 _ (by rw [e0];rfl),cq 1 _ (by rw [e0];rfl)]
    ·refine hn (xR bn) ?_
     by_cases c4:j=s.aR[n].bc
     ·have e0 : ∀gk,fL s j gk n = -(if gk=0 then (jd s n).1 else (jd s n).2):=fun gk=>by unfold fL;rw [I];simp only [if_neg bn,if_pos c4]
      refine fN (xQ c4) (cp (g1 _) (cp (g2 _) (cp (g1 _) (cp (g2 _) ?_))))
      rw [hY (by omega),Int.toNat_natCast,Nat.zero_add,cr (by omega) (by omega),cr (by omega) (by omega),cq 0 _ (by rw [e0];simp),cq 1 _ (by rw [e0];simp)]
     ·have e0 : ∀gk,fL s j gk n=0:=fun gk=>by unfold fL;rw [I];simp only [if_neg bn,if_neg c4]
      refine hn (xR c4) ?_
      rw [hY (by omega)]
      congr 4
      ·refine gI fun k _=> ?_
       by_cases c:k=n
       ·subst c;rw [if_neg (by omega),if_pos (by omega),e0]
       ·by_cases c4:k<n
        ·rw [if_pos c4,if_pos (by omega)]
        ·rw [if_neg c4,if_neg (by omega)]
      ·refine gI fun k _=> ?_
       by_cases c:k=n
       ·subst c;rw [if_neg (by omega),if_pos (by omega),e0]
       ·by_cases c4:k<n
        ·rw [if_pos c4,if_pos (by omega)]
        ·rw [if_neg c4,if_neg (by omega)])
  (fun _ _=>by
    unfold qP
    refine fu (by simp) ?_
    simp only
    congr 3
    ·exact gI fun k aV=>by rw [if_pos aV]
    ·exact gI fun k aV=>by rw [if_pos aV]) () trivial
 have z : ∀gk,(a3 s.aR.length fun k=>if k<0 then fL s j gk k else 0)=a3 s.aR.length fun _=>(0:Int):=fun gk=>gI fun k _=>by rw [if_neg (by omega)]
 rw [z,z] at e
 exact e
def fa (s:bl)(q:Nat):Nat:=(hU s.bb 0).getD q 0
def bK (s:bl):Nat:=(hU s.bb 0).length
def hv (s:bl)(r k:Nat):Int:=fL s (fa s (r / 2)) (r % 2) k
theorem ua (s:bl):(hU s.bb 0).map (fun n:Nat=>(n:Int))=a3 (bK s) fun q=>((fa s q:Nat):Int):=by
 apply List.ext_getElem?
 intro q
 rw [List.getElem?_map]
 by_cases c:q<bK s
 ·rw [kn c]
  have h:(hU s.bb 0)[q]? = some (hU s.bb 0)[q]:=List.getElem?_eq_getElem c
  unfold fa
  rw [List.getD_eq_getElem?_getD,h];rfl
 ·rw [List.getElem?_eq_none_iff.2 (by unfold bK at c;omega),List.getElem?_eq_none_iff.2 (by rw [d7];omega)];rfl
theorem Fm (s:bl){q:Nat}(h:q<bK s):fa s q<s.bb.length:=by
 have h1:(hU s.bb 0)[q]? = some (hU s.bb 0)[q]:=List.getElem?_eq_getElem h
 have h2:fa s q=(hU s.bb 0)[q]:=by unfold fa;rw [List.getD_eq_getElem?_getD,h1];rfl
 have:=AS s.bb 0 _ (List.mem_of_getElem? h1)
 omega
theorem m9 (s:bl):bK s≤s.bb.length:=EJ s.bb 0
theorem AY {α:Type}(r n:Nat)(e:Nat→Nat→α):(a3 (r*n) fun x=>e (x / n) (x % n))++a3 n (e r)=a3 ((r+1)*n) fun x=>e (x / n) (x % n):=by
 rw [Nat.succ_mul,w4]
 congr 1
 refine gI fun j aq=> ?_
 have h1:(r*n+j) / n=r:=by rw [Nat.mul_comm,Nat.mul_add_div (by omega),Nat.div_eq_of_lt aq];rfl
 have h2:(r*n+j) % n=j:=by rw [Nat.mul_comm,Nat.mul_add_mod,Nat.mod_eq_of_lt aq]
 rw [h1,h2]
theorem K2 (s:bl)(h:jw s):tG s=some (a3 (2*bK s*s.aR.length) fun x=>hv s (x / s.aR.length) (x % s.aR.length)):=by
 obtain ⟨-,-,f3,f4⟩:=id h
 have mU:=m9 s
 unfold tG
 refine bT (Ay s (by omega)) ?_
 rw [ua,oX,d7]
 unfold z8
 obtain ⟨x,e,-⟩:=jr (f:=fun w:Int×List Int=>rh (a3 (bK s) fun q=>((fa s q:Nat):Int)) ((bK s:Nat):Int) s.bb s.aR w.1 w.2) (fun (n:Nat) (_:Unit)=>((n:Int),a3 (2*n*s.aR.length) fun x=>hv s (x / s.aR.length) (x % s.aR.length))) (bK s) (fun _ _=>True) (fun _=>a3 (2*bK s*s.aR.length) fun x=>hv s (x / s.aR.length) (x % s.aR.length))
  (fun n a6 _ _=>by
    refine ⟨(),?_,trivial⟩
    have aE:2*n*s.aR.length≤12*8:=Nat.mul_le_mul (by omega) f4
    unfold rh
    refine gW (by simp only;omega) (cp (by rw [d7];simp only;omega) (bT (x:=((fa s n:Nat):Int)) (by simp only;rw [Int.toNat_natCast];exact kn a6) (bT (Mu s h _ _ _ _ _) ?_)))
    refine cp (by simp only [List.length_append,d7];omega) (cp (by simp only [List.length_append,d7];omega) ?_)
    simp only
    rw [hY (by omega)]
    have r1:a3 s.aR.length (fL s (fa s n) 0)=a3 s.aR.length (hv s (2*n)):=gI fun k _=>by
     unfold hv;rw [show 2*n / 2=n by omega,show 2*n % 2=0 by omega]
    have r2:a3 s.aR.length (fL s (fa s n) 1)=a3 s.aR.length (hv s (2*n+1)):=gI fun k _=>by
     unfold hv;rw [show (2*n+1) / 2=n by omega,show (2*n+1) % 2=1 by omega]
    rw [r1,r2,AY (2*n),AY (2*n+1),show 2*n+1+1=2*(n+1) by omega])
  (fun _ _=>by unfold rh;exact fu (by simp) rfl) () trivial
 have z:(a3 (2*0*s.aR.length) fun x=>hv s (x / s.aR.length) (x % s.aR.length))=[]:=by simp [a3]
 rw [z] at e
 exact bT e rfl
theorem JV (s:bl)(h:jw s):s3 s=some (a3 (2*bK s) fun r=>a3 s.aR.length (hv s r)):=by
 obtain ⟨-,-,f3,f4⟩:=id h
 have mU:=m9 s
 unfold s3
 refine bT (Du s (by omega)) ?_
 rw [ua,oX,d7]
 unfold yE
 obtain ⟨x,e,-⟩:=jr (f:=fun w:Int×List (List Int)=>qQ s.bb s.aR (a3 (bK s) fun q=>((fa s q:Nat):Int)) ((bK s:Nat):Int) w.1 w.2) (fun (n:Nat) (_:Unit)=>((n:Int),a3 (2*n) fun r=>a3 s.aR.length (hv s r))) (bK s) (fun _ _=>True) (fun _=>a3 (2*bK s) fun r=>a3 s.aR.length (hv s r))
  (fun n a6 _ _=>by
    refine ⟨(),?_,trivial⟩
    unfold qQ
    refine gW (by simp only;omega) (cp (by rw [d7];simp only;omega) (bT (x:=((fa s n:Nat):Int)) (by simp only;rw [Int.toNat_natCast];exact kn a6) (cp (by rw [cX];omega) ?_)))
    refine bT (x:=(a3 s.aR.length (fL s (fa s n) 0),a3 s.aR.length (fL s (fa s n) 1))) (by rw [show (len_ aU s.aR).toNat=s.aR.length by rw [cX,Int.toNat_natCast],oW];exact Mv s h _ _ _ _ _) (cp (by simp only [List.length_append,d7,List.length_cons,List.length_nil];omega) ?_)
    simp only
    rw [hY (by omega),show 2*(n+1)=2*n+1+1 by omega,oa (2*n+1),oa (2*n)]
    have r1:a3 s.aR.length (fL s (fa s n) 0)=a3 s.aR.length (hv s (2*n)):=gI fun k _=>by
     unfold hv;rw [show 2*n / 2=n by omega,show 2*n % 2=0 by omega]
    have r2:a3 s.aR.length (fL s (fa s n) 1)=a3 s.aR.length (hv s (2*n+1)):=gI fun k _=>by
     unfold hv;rw [show (2*n+1) / 2=n by omega,show (2*n+1) % 2=1 by omega]
    rw [r1,r2];simp)
  (fun _ _=>by unfold qQ;exact fu (by simp) rfl) () trivial
 exact bT e rfl
def gr (s:bl):List cu:=iw s.aR s.aR.length
def bp (s:bl):Nat:=(gr s).length
def ho (s:bl)(c:Nat):Nat:=((gr s).getD c ⟨0,0⟩).iU.toNat
def ms (s:bl)(c:Nat):Int:=((gr s).getD c ⟨0,0⟩).mF
def hz (s:bl)(i c:Nat):Int:=ms s c*hv s i (ho s c)
def lb (s:bl)(l:List Int)(i:Nat):Int:= -(l.getD (2*fa s (i / 2)+i % 2) 0)
theorem r8 (s:bl){c:Nat}(aL:c<bp s):(gr s)[c]? = some ⟨(ho s c:Int),ms s c⟩∧ho s c<s.aR.length∧(ms s c=1∨ms s c = -1):=by
 have h1:(gr s)[c]? = some (gr s)[c]:=List.getElem?_eq_getElem aL
 have h2:(gr s).getD c ⟨0,0⟩=(gr s)[c]:=by rw [List.getD_eq_getElem?_getD,h1];rfl
 obtain ⟨k,e1,e2,br⟩:=EL (Nat.le_refl _) (List.mem_of_getElem? h1)
 have cS:ho s c=k:=by unfold ho;rw [h2,e1];rfl
 have ez:ms s c=((gr s)[c]).mF:=by unfold ms;rw [h2]
 refine ⟨?_,by omega,by rw [ez];exact br⟩
 rw [h1,cS,ez,← e1]
theorem nK (s:bl):bp s≤2*s.aR.length:=wU _ _
theorem E5 (s:bl):(gr s).map cu.iU=a3 (bp s) fun c=>((ho s c:Nat):Int):=by
 apply List.ext_getElem?
 intro c
 rw [List.getElem?_map]
 by_cases h:c<bp s
 ·rw [(r8 s h).1,kn h];rfl
 ·rw [List.getElem?_eq_none_iff.2 (by unfold bp at h;omega),List.getElem?_eq_none_iff.2 (by rw [d7];omega)];rfl
theorem Mw (s:bl):(gr s).map cu.mF=a3 (bp s) (ms s):=by
 apply List.ext_getElem?
 intro c
 rw [List.getElem?_map]
 by_cases h:c<bp s
 ·rw [(r8 s h).1,kn h];rfl
 ·rw [List.getElem?_eq_none_iff.2 (by unfold bp at h;omega),List.getElem?_eq_none_iff.2 (by rw [d7];omega)];rfl
theorem FF (s:bl)(h:jw s)(i:Nat){c:Nat}(aL:c<bp s): -100≤hz s i c∧hz s i c≤100:=by
 have h1:=MZ s h (fa s (i / 2)) (i % 2) (ho s c)
 unfold hz hv
 rcases (r8 s aL).2.2 with e|e<;>rw [e]<;>omega
theorem L5 (s:bl)(h:jw s)(l:List Int)(aA:l.length=2*s.bb.length)(aE:∀x∈l,-100≤x∧x≤100):ty s l=some (a3 (2*bK s) (lb s l)):=by
 obtain ⟨-,-,f3,f4⟩:=id h
 have mU:=m9 s
 unfold ty
 refine bT (Ay s (by omega)) ?_
 rw [ua,oX,d7]
 unfold zX
 obtain ⟨x,e,-⟩:=jr (f:=fun w:Int×List Int=>q8 l (a3 (bK s) fun q=>((fa s q:Nat):Int)) ((bK s:Nat):Int) w.1 w.2) (fun (n:Nat) (_:Unit)=>((n:Int),a3 (2*n) (lb s l))) (bK s) (fun _ _=>True) (fun _=>a3 (2*bK s) (lb s l))
  (fun n a6 _ _=>by
    refine ⟨(),?_,trivial⟩
    have bk:=Fm s a6
    have jT:ai ((2:Int)*((fa s n:Nat):Int))=((2*fa s n:Nat):Int):=by rw [cr (by omega) (by omega)];omega
    have nZ:ai (((2*fa s n:Nat):Int)+1)=((2*fa s n+1:Nat):Int):=hY (by omega)
    have x1:=aE l[2*fa s n] (List.getElem_mem (by omega))
    have x2:=aE l[2*fa s n+1] (List.getElem_mem (by omega))
    have p1:lb s l (2*n) = -l[2*fa s n]:=by
     unfold lb
     rw [show 2*n / 2=n by omega,show 2*n % 2=0 by omega,Nat.add_zero,List.getD_eq_getElem?_getD,List.getElem?_eq_getElem (by omega)];rfl
    have p2:lb s l (2*n+1) = -l[2*fa s n+1]:=by
     unfold lb
     rw [show (2*n+1) / 2=n by omega,show (2*n+1) % 2=1 by omega,List.getD_eq_getElem?_getD,List.getElem?_eq_getElem (by omega)];rfl
    unfold q8
    refine gW (by simp only;omega) (cp (by rw [d7];simp only;omega) (bT (x:=((fa s n:Nat):Int)) (by simp only;rw [Int.toNat_natCast];exact kn a6) ?_))
    rw [jT,nZ]
    refine cp (by omega) (bT (x:=l[2*fa s n]) (by rw [Int.toNat_natCast];exact List.getElem?_eq_getElem (by omega)) (cp (by omega) (bT (x:=l[2*fa s n+1]) (by rw [Int.toNat_natCast];exact List.getElem?_eq_getElem (by omega)) (cp (by simp only [List.length_append,d7,List.length_cons,List.length_nil];omega) ?_))))
    simp only
    rw [hY (by omega),cr (by omega) (by omega),cr (by omega) (by omega),show 2*(n+1)=2*n+1+1 by omega,oa (2*n+1),oa (2*n),p1,p2]
    simp)
  (fun _ _=>by unfold q8;exact fu (by simp) rfl) () trivial
 exact bT e rfl
def GZ (s:bl)(l:List Int):iH:=⟨((2*bK s:Nat):Int),(bp s:Int),a3 (2*bK s*bp s) (fun x=>hz s (x / bp s) (x % bp s)),a3 (2*bK s) (lb s l),a3 (bp s) fun _=>0⟩
theorem J5 (s:bl)(h:jw s)(l:List Int)(aA:l.length=2*s.bb.length)(aE:∀x∈l,-100≤x∧x≤100):tn s l=some (GZ s l):=by
 obtain ⟨-,-,f3,f4⟩:=id h
 have mU:=m9 s
 have oM:=nK s
 unfold tn
 refine bT (Dv s (by omega)) (bT (K2 s h) (bT (Ay s (by omega)) (bT (L5 s h l aA aE) ?_)))
 show (if 0≤len_ eI ((gr s).map cu.iU)∧_ then _ else none)=_
 rw [ua]
 show (if 0≤len_ eI ((gr s).map cu.iU)∧(8:Int)*len_ eI ((gr s).map cu.iU)≤281474976710656∧len_ eI ((gr s).map cu.iU)<9223372036854775808 then
  v5 ((gr s).map cu.iU) ((gr s).map cu.mF) (len_ aU s.aR) _ (ai ((2:Int)*len_ eI (a3 (bK s) fun q=>((fa s q:Nat):Int)))) (len_ eI ((gr s).map cu.iU)) (a3 (2*bK s) (lb s l)) (List.replicate (len_ eI ((gr s).map cu.iU)).toNat 0) 0 [] >>= fun cM=>some (⟨ai ((2:Int)*len_ eI (a3 (bK s) fun q=>((fa s q:Nat):Int))),len_ eI ((gr s).map cu.iU),cM,a3 (2*bK s) (lb s l),List.replicate (len_ eI ((gr s).map cu.iU)).toNat 0⟩:iH) else none)=_
 rw [E5,Mw,oX,d7,oX,d7,Int.toNat_natCast,cX,show ai ((2:Int)*(bK s:Nat))=((2*bK s:Nat):Int) by rw [cr (by omega) (by omega)];omega,oW]
 refine cp (by omega) (bT (x:=a3 (2*bK s*bp s) (fun x=>hz s (x / bp s) (x % bp s))) ?_ rfl)
 unfold v5
 obtain ⟨x,e,-⟩:=jr (f:=fun w:Int×List Int=>qX (a3 (bp s) fun c=>((ho s c:Nat):Int)) (a3 (bp s) (ms s)) (s.aR.length:Nat) (a3 (2*bK s*s.aR.length) fun x=>hv s (x / s.aR.length) (x % s.aR.length)) ((2*bK s:Nat):Int) ((bp s:Nat):Int) (a3 (2*bK s) (lb s l)) (a3 (bp s) fun _=>0) w.1 w.2) (fun (i:Nat) (_:Unit)=>((i:Int),a3 (i*bp s) (fun x=>hz s (x / bp s) (x % bp s)))) (2*bK s) (fun _ _=>True) (fun _=>a3 (2*bK s*bp s) (fun x=>hz s (x / bp s) (x % bp s)))
  (fun i an _ _=>by
    refine ⟨(),?_,trivial⟩
    have Rp:i*bp s≤12*16:=Nat.mul_le_mul (by omega) (by omega)
    have j4:i*s.aR.length≤12*8:=Nat.mul_le_mul (by omega) f4
    obtain ⟨y,e2,-⟩:=jr (f:=fun w:Int×List Int=>qW (a3 (bp s) fun c=>((ho s c:Nat):Int)) (a3 (bp s) (ms s)) (s.aR.length:Nat) (a3 (2*bK s*s.aR.length) fun x=>hv s (x / s.aR.length) (x % s.aR.length)) (i:Int) ((bp s:Nat):Int) ((2*bK s:Nat):Int) ((bp s:Nat):Int) (a3 (2*bK s) (lb s l)) (a3 (bp s) fun _=>0) w.1 w.2)
     (fun (c:Nat) (_:Unit)=>((c:Int),(a3 (i*bp s) fun x=>hz s (x / bp s) (x % bp s))++a3 c (hz s i))) (bp s) (fun _ _=>True) (fun _=>(a3 (i*bp s) fun x=>hz s (x / bp s) (x % bp s))++a3 (bp s) (hz s i))
     (fun c aL _ _=>by
       refine ⟨(),?_,trivial⟩
       obtain ⟨-,g8,lR⟩:=r8 s aL
       have Gy:(i+1)*s.aR.length≤2*bK s*s.aR.length:=Nat.mul_le_mul_right _ an
       rw [Nat.succ_mul] at Gy
       have lA:ai (ai ((i:Int)*((s.aR.length:Nat):Int))+((ho s c:Nat):Int))=((i*s.aR.length+ho s c:Nat):Int):=by
        rw [← Int.natCast_mul,cr (x:=((i*s.aR.length:Nat):Int)) (by omega) (by omega),cr (by omega) (by omega)];omega
       have h2:(i*s.aR.length+ho s c) / s.aR.length=i:=by rw [Nat.mul_comm,Nat.mul_add_div (by omega),Nat.div_eq_of_lt g8];rfl
       have af:(i*s.aR.length+ho s c) % s.aR.length=ho s c:=by rw [Nat.mul_comm,Nat.mul_add_mod,Nat.mod_eq_of_lt g8]
       have Pc:=FF s h i aL
       unfold qW
       refine gW (by simp only;omega) (cp (by rw [d7];simp only;omega) (bT (x:=((ho s c:Nat):Int)) (by simp only;rw [Int.toNat_natCast];exact kn aL) (cp (by rw [d7];simp only;omega) (bT (x:=ms s c) (by simp only;rw [Int.toNat_natCast];exact kn aL) ?_))))
       rw [lA]
       refine cp (by rw [d7];omega) (bT (x:=hv s i (ho s c)) (by rw [Int.toNat_natCast,kn (by omega),h2,af]) (cp (by simp only [List.length_append,d7,List.length_cons,List.length_nil];omega) ?_))
       simp only
       rw [hY (by omega),oa,show ms s c*hv s i (ho s c)=hz s i c from rfl,cr (by omega) (by omega),List.append_assoc])
     (fun _ _=>by unfold qW;exact fu (by simp) rfl) () trivial
    have z:(a3 (i*bp s) fun x=>hz s (x / bp s) (x % bp s))++a3 0 (hz s i)=a3 (i*bp s) fun x=>hz s (x / bp s) (x % bp s):=by simp [a3]
    rw [z] at e2
    unfold qX
    refine gW (by simp only;omega) (bT (x:=(a3 (i*bp s) fun x=>hz s (x / bp s) (x % bp s))++a3 (bp s) (hz s i)) (by unfold zO;rw [oX,d7];exact e2) ?_)
    simp only
    rw [hY (by omega),AY])
  (fun _ _=>by unfold qX;exact fu (by simp) rfl) () trivial
 have z:(a3 (0*bp s) fun x=>hz s (x / bp s) (x % bp s))=[]:=by simp [a3]
 rw [z] at e
 exact e
def lB (s:bl)(r c:Nat):Int:=if r<2*bK s∧c<bp s then hz s r c else 0
def hp (s:bl)(l:List Int)(r:Nat):Int:=if r<2*bK s then lb s l r else 0
def lU (s:bl)(N i c x:Nat):Int:=if (x / N<i∨(x / N=i∧x % N<c))∧x % N<bp s then hz s (x / N) (x % N) else 0
theorem M0 (s:bl){T N i c:Nat}(aL:c<bp s)(er:bp s≤N)(jy:i*N+c<T){v:Int}(aS:v=hz s i c):(a3 T (lU s N i c)).set (i*N+c) v=a3 T (lU s N i (c+1)):=by
 have h2:(i*N+c) / N=i:=by rw [Nat.mul_comm,Nat.mul_add_div (by omega),Nat.div_eq_of_lt (by omega)];rfl
 have af:(i*N+c) % N=c:=by rw [Nat.mul_comm,Nat.mul_add_mod,Nat.mod_eq_of_lt (by omega)]
 rw [oV]
 refine gI fun x _=> ?_
 unfold lU
 by_cases e:x=i*N+c
 ·rw [if_pos e,e,h2,af,if_pos ⟨.inr ⟨rfl,by omega⟩,aL⟩,aS]
 ·rw [if_neg e]
  have cb : ¬(x / N=i∧x % N=c):=fun ⟨a,b⟩=>e (by rw [← Nat.div_add_mod x N,a,b,Nat.mul_comm])
  by_cases d:(x / N<i∨(x / N=i∧x % N<c))∧x % N<bp s
  ·rw [if_pos d,if_pos ⟨by omega,d.2⟩]
  ·rw [if_neg d,if_neg (fun vK=>d ⟨by omega,vK.2⟩)]
theorem M1 (s:bl)(T N i:Nat):a3 T (lU s N i (bp s))=a3 T (lU s N (i+1) 0):=by
 refine gI fun x _=> ?_
 unfold lU
 by_cases d:(x / N<i∨(x / N=i∧x % N<bp s))∧x % N<bp s
 ·rw [if_pos d,if_pos ⟨by omega,d.2⟩]
 ·rw [if_neg d,if_neg (fun vK=>d ⟨by omega,vK.2⟩)]
theorem Mx (s:bl)(T N:Nat):a3 T (lU s N 0 0)=a3 T fun _=>0:=gI fun x _=>by
 unfold lU
 rw [if_neg (fun h=>by rcases h.1 with h|h;exact Nat.not_lt_zero _ h;exact Nat.not_lt_zero _ h.2)]
theorem M2 (s:bl)(T N:Nat):a3 T (lU s N (2*bK s) 0)=a3 T fun x=>lB s (x / N) (x % N):=gI fun x _=>by
 unfold lU lB
 by_cases d:x / N<2*bK s∧x % N<bp s
 ·rw [if_pos d,if_pos ⟨.inl d.1,d.2⟩]
 ·rw [if_neg d,if_neg (fun vK=>d ⟨by omega,vK.2⟩)]
theorem My (s:bl)(l:List Int)(M:Nat):(a3 M fun x=>if x<0 then hp s l x else 0)=a3 M fun _=>0:=gI fun j _=>by rw [if_neg (by omega)]
theorem M3 (s:bl)(l:List Int)(M:Nat):(a3 M fun x=>if x<2*bK s then hp s l x else 0)=a3 M (hp s l):=gI fun j _=>by
 by_cases c:j<2*bK s
 ·rw [if_pos c]
 ·rw [if_neg c];unfold hp;rw [if_neg c]
theorem Ln (s:bl)(h:jw s)(l:List Int)(aA:l.length=2*s.bb.length)(aE:∀x∈l,-100≤x∧x≤100)(c7 hB:Nat)(Rq:c7≤100)(Rr:hB≤100):
 sZ s l (c7:Int) (hB:Int)=some (((2*bK s+hB:Nat):Int),((bp s+c7:Nat):Int),a3 ((2*bK s+hB)*(bp s+c7)) (fun x=>lB s (x / (bp s+c7)) (x % (bp s+c7))),a3 (2*bK s+hB) (hp s l),a3 (bp s+c7) fun _=>0):=by
 obtain ⟨-,-,f3,f4⟩:=id h
 have mU:=m9 s
 have oM:=nK s
 have Gz:(2*bK s+hB)*(bp s+c7)≤112*116:=Nat.mul_le_mul (by omega) (by omega)
 unfold sZ
 refine bT (JV s h) (bT (x:=gr s) (D3 s (by omega)) ?_)
 have lA:ai ((len_ (eX 1 eI) (a3 (2*bK s) fun r=>a3 s.aR.length (hv s r)))+(hB:Int))=((2*bK s+hB:Nat):Int):=by rw [cX,d7,cr (by omega) (by omega)];omega
 have jT:ai ((len_ dA (gr s))+(c7:Int))=((bp s+c7:Nat):Int):=by
  rw [cX];show ai (((bp s:Nat):Int)+(c7:Int))=_
  rw [cr (by omega) (by omega)];omega
 have nZ:ai (((2*bK s+hB:Nat):Int)*((bp s+c7:Nat):Int))=(((2*bK s+hB)*(bp s+c7):Nat):Int):=by rw [← Int.natCast_mul,cr (by omega) (by omega)]
 rw [lA,jT,nZ,Int.toNat_natCast,Int.toNat_natCast,Int.toNat_natCast,oW,oW,oW,cX,d7]
 refine cp (by omega) (cp (by omega) (cp (by omega) ?_))
 refine bT (x:=a3 ((2*bK s+hB)*(bp s+c7)) (fun x=>lB s (x / (bp s+c7)) (x % (bp s+c7)))) ?_ ?_
 ·unfold yy
  obtain ⟨x,e,-⟩:=jr (f:=fun w:Int×List Int=>qJ s.bb s.aR l (gr s) (a3 (2*bK s) fun r=>a3 s.aR.length (hv s r)) ((2*bK s:Nat):Int) ((2*bK s+hB:Nat):Int) ((bp s+c7:Nat):Int) (a3 (2*bK s+hB) fun _=>0) (a3 (bp s+c7) fun _=>0) w.1 w.2) (fun (i:Nat) (_:Unit)=>((i:Int),a3 ((2*bK s+hB)*(bp s+c7)) (lU s (bp s+c7) i 0))) (2*bK s) (fun _ _=>True) (fun _=>a3 ((2*bK s+hB)*(bp s+c7)) (fun x=>lB s (x / (bp s+c7)) (x % (bp s+c7))))
   (fun i an _ _=>by
     refine ⟨(),?_,trivial⟩
     have vk:(i+1)*(bp s+c7)≤(2*bK s+hB)*(bp s+c7):=Nat.mul_le_mul_right _ (by omega)
     rw [Nat.succ_mul] at vk
     obtain ⟨y,e2,-⟩:=jr (f:=fun w:Int×List Int=>qI s.bb s.aR l (gr s) (i:Int) (a3 s.aR.length (hv s i)) (a3 (2*bK s) fun r=>a3 s.aR.length (hv s r)) ((2*bK s:Nat):Int) ((bp s:Nat):Int) ((2*bK s+hB:Nat):Int) ((bp s+c7:Nat):Int) (a3 (2*bK s+hB) fun _=>0) (a3 (bp s+c7) fun _=>0) w.1 w.2) (fun (c:Nat) (_:Unit)=>((c:Int),a3 ((2*bK s+hB)*(bp s+c7)) (lU s (bp s+c7) i c))) (bp s) (fun _ _=>True) (fun _=>a3 ((2*bK s+hB)*(bp s+c7)) (lU s (bp s+c7) i (bp s)))
      (fun c aL _ _=>by
        refine ⟨(),?_,trivial⟩
        obtain ⟨hO,g8,lR⟩:=r8 s aL
        have Pc:=FF s h i aL
        have vL:ai (ai ((i:Int)*((bp s+c7:Nat):Int))+((c:Nat):Int))=((i*(bp s+c7)+c:Nat):Int):=by
         rw [← Int.natCast_mul,cr (x:=((i*(bp s+c7):Nat):Int)) (by omega) (by omega),cr (by omega) (by omega)];omega
        unfold qI
        refine gW (by simp only;omega) (cp (by show _∧((c:Nat):Int)<((bp s:Nat):Int);simp only;omega) (bT (x:=⟨(ho s c:Int),ms s c⟩) (by simp only;rw [Int.toNat_natCast];exact hO) (cp (by rw [d7];simp only;omega) (bT (x:=hv s i (ho s c)) (by simp only;rw [Int.toNat_natCast];exact kn g8) ?_))))
        simp only
        rw [vL]
        refine cp (by rw [d7];omega) (cp (by rw [d7,Int.toNat_natCast];omega) ?_)
        rw [hY (by omega),Int.toNat_natCast,Nat.zero_add,show ms s c*hv s i (ho s c)=hz s i c from rfl,cr (by omega) (by omega),M0 s aL (by omega) (by omega) rfl])
      (fun _ _=>by unfold qI;exact fu (by simp) rfl) () trivial
     unfold qJ
     refine gW (by simp only;omega) (cp (by rw [d7];simp only;omega) (bT (x:=a3 s.aR.length (hv s i)) (by simp only;rw [Int.toNat_natCast];exact kn an) (bT (x:=a3 ((2*bK s+hB)*(bp s+c7)) (lU s (bp s+c7) i (bp s))) (by unfold yx;rw [cX];exact e2) ?_)))
     simp only
     rw [hY (by omega),M1])
   (fun _ _=>by
     unfold qJ
     refine fu (by simp) ?_
     simp only
     rw [M2]) () trivial
  rw [Mx] at e
  exact e
 refine bT (Du s (by omega)) ?_
 rw [ua,oX,d7]
 refine bT (x:=a3 (2*bK s+hB) (hp s l)) ?_ rfl
 unfold yz
 obtain ⟨x,e,-⟩:=jr (f:=fun w:Int×List Int=>qK l (a3 (bK s) fun q=>((fa s q:Nat):Int)) ((bK s:Nat):Int) ((2*bK s+hB:Nat):Int) ((bp s+c7:Nat):Int) (a3 ((2*bK s+hB)*(bp s+c7)) (fun x=>lB s (x / (bp s+c7)) (x % (bp s+c7)))) (a3 (bp s+c7) fun _=>0) w.1 w.2) (fun (n:Nat) (_:Unit)=>((n:Int),a3 (2*bK s+hB) fun x=>if x<2*n then hp s l x else 0)) (bK s) (fun _ _=>True) (fun _=>a3 (2*bK s+hB) (hp s l))
  (fun n a6 _ _=>by
    refine ⟨(),?_,trivial⟩
    have bk:=Fm s a6
    have jT : ∀a:Nat,a≤1000→ai ((2:Int)*((a:Nat):Int))=((2*a:Nat):Int):=fun a bV=>by rw [cr (by omega) (by omega)];omega
    have x1:=aE l[2*fa s n] (List.getElem_mem (by omega))
    have x2:=aE l[2*fa s n+1] (List.getElem_mem (by omega))
    have p1:hp s l (2*n) = -l[2*fa s n]:=by
     unfold hp lb
     rw [if_pos (by omega),show 2*n / 2=n by omega,show 2*n % 2=0 by omega,Nat.add_zero,List.getD_eq_getElem?_getD,List.getElem?_eq_getElem (by omega)];rfl
    have p2:hp s l (2*n+1) = -l[2*fa s n+1]:=by
     unfold hp lb
     rw [if_pos (by omega),show (2*n+1) / 2=n by omega,show (2*n+1) % 2=1 by omega,List.getD_eq_getElem?_getD,List.getElem?_eq_getElem (by omega)];rfl
    have cq : ∀k v,v=hp s l k→(a3 (2*bK s+hB) fun x=>if x<k then hp s l x else 0).set k v=a3 (2*bK s+hB) fun x=>if x<k+1 then hp s l x else 0:=fun k v aS=>by
     rw [oV]
     refine gI fun j _=> ?_
     by_cases c:j=k
     ·subst c;rw [if_pos rfl,if_pos (by omega)];exact aS
     ·rw [if_neg c]
      by_cases c4:j<k
      ·rw [if_pos c4,if_pos (by omega)]
      ·rw [if_neg c4,if_neg (by omega)]
    unfold qK
    refine gW (by simp only;omega) (cp (by rw [d7];simp only;omega) (bT (x:=((fa s n:Nat):Int)) (by simp only;rw [Int.toNat_natCast];exact kn a6) ?_))
    simp only
    rw [jT (fa s n) (by omega),jT n (by omega),hY (n:=2*fa s n) (by omega),hY (n:=2*n) (by omega)]
    refine cp (by omega) (bT (x:=l[2*fa s n]) (by rw [Int.toNat_natCast];exact List.getElem?_eq_getElem (by omega)) (cp (by omega) (bT (x:=l[2*fa s n+1]) (by rw [Int.toNat_natCast];exact List.getElem?_eq_getElem (by omega)) ?_)))
    refine cp (by rw [d7];omega) (cp (by rw [d7,Int.toNat_natCast];omega) (cp (by rw [d7];omega) (cp (by rw [List.length_set,d7,Int.toNat_natCast];omega) ?_)))
    rw [hY (by omega),cr (x:=0-l[2*fa s n]) (by omega) (by omega),cr (x:=0-l[2*fa s n+1]) (by omega) (by omega),Int.toNat_natCast,Int.toNat_natCast,Nat.zero_add,Nat.zero_add,cq _ _ (by rw [p1];omega),cq _ _ (by rw [p2];omega),show 2*(n+1)=2*n+1+1 by omega])
  (fun _ _=>by
    unfold qK
    refine fu (by simp) ?_
    simp only
    rw [M3]) () trivial
 rw [Nat.mul_zero,My] at e
 exact e
theorem KD {qG:Nat}{l:List Int}(h:ov qG l=true):l.length=2*qG∧ ∀x∈l,-100≤x∧x≤100:=by
 unfold ov at h
 rw [Bool.and_eq_true,decide_eq_true_eq,List.all_eq_true] at h
 exact ⟨h.1,fun x I=>by have:=h.2 x I;unfold mA at this;simpa using this⟩
theorem Lo (s:bl)(i0:jV s)(l:List Int)(aA:l.length≤maxLen):
 (pF s l=some true∧rK s l=some true∧lc s=some true∧ov s.bb.length l=true)∨(pF s l=some false∧rK s l=some false):=by
 obtain ⟨p,p1,p2⟩:=ry s i0
 have nx:p=true→s.bb.length≤6:=fun h=>(tj s i0 (h▸p1)).2.2.1
 have e:=Ll s p p1 nx l aA
 cases p with
 | false=>exact .inr ⟨e,bT p2 (hn rfl rfl)⟩
 | true =>
  rw [Bool.true_and] at e
  have e2:rK s l=some (ov s.bb.length l):=bT p2 (fN rfl (bT (KB s (nx rfl) l aA) rfl))
  by_cases c:ov s.bb.length l=true
  ·rw [c] at e e2;exact .inl ⟨e,e2,p1,c⟩
  ·rw [Bool.not_eq_true] at c
   rw [c] at e e2;exact .inr ⟨e,e2⟩
theorem Mz (M N:Nat){i:Nat}(an:i<M)(cG:M≤1000)(er:N≤1000)(row:List Int)(aA:row.length=M*N)(q1 q2:List Int):tc (i:Int) (M:Int) (N:Int) row q1 q2=some (0+i*N,N):=by
 have h1:i*N≤1000*1000:=Nat.mul_le_mul (by omega) er
 have h2:(i+1)*N≤1001*1000:=Nat.mul_le_mul (by omega) er
 have af:(i+1)*N≤M*N:=Nat.mul_le_mul_right _ an
 have ax:(i+1)*N=i*N+N:=Nat.succ_mul i N
 have e1:ai ((i:Int)*(N:Int))=((i*N:Nat):Int):=by rw [← Int.natCast_mul,cr (by omega) (by omega)]
 have e2:ai (ai ((i:Int)+1)*(N:Int))=(((i+1)*N:Nat):Int):=by rw [hY (by omega),← Int.natCast_mul,cr (by omega) (by omega)]
 unfold tc
 rw [e1,e2,Int.toNat_natCast,Int.toNat_natCast,aA]
 refine cp (by omega) (cp (by omega) (cp (by omega) ?_))
 rw [show (i+1)*N-i*N=N by omega]
noncomputable def fC (s:bl)(k:Int):Int:=(kO s k).getD 0
noncomputable def eQ (s:bl)(x y d n:Int)(q:Nat):Int:=if (ho s q:Int)=x then d*fC s x else if (ho s q:Int)=y then (0-n)*fC s y else 0
def fV (list:List bh)(i:Nat):bh:=list.getD i ⟨0,0,0,0⟩
end Go.Proofs.Ytgfpnhmcmgnepaa
namespace Go.Proofs.Ytgfpnhmcmgnepaa
set_option linter.unusedVariables false
set_option linter.unusedSimpArgs false
open Go Go.VL
noncomputable def fw (s:bl)(list:List bh)(r q:Nat):Int :=
 if r<2*bK s then lB s r q else if q<bp s then (if (r-2*bK s) % 2=0 then eQ s (fV list ((r-2*bK s) / 2)).bi (fV list ((r-2*bK s) / 2)).bc (fV list ((r-2*bK s) / 2)).de (fV list ((r-2*bK s) / 2)).cz q else eQ s (fV list ((r-2*bK s) / 2)).bc (fV list ((r-2*bK s) / 2)).bi (fV list ((r-2*bK s) / 2)).de (fV list ((r-2*bK s) / 2)).cz q)
  else if q-bp s=r-2*bK s then 1 else 0
def cy (s:bl)(k:Nat):Nat:=bp s+2*k
def fD (s:bl)(k:Nat):Nat:=2*bK s+2*k
noncomputable def h7 (s:bl)(list:List bh)(N r c x:Nat):Int:=if x / N<r∨(x / N=r∧x % N<c) then fw s list (x / N) (x % N) else lB s (x / N) (x % N)
theorem MA (s:bl)(list:List bh)(T N:Nat):a3 T (h7 s list N (2*bK s) 0)=a3 T fun x=>lB s (x / N) (x % N):=gI fun x _=>by
 unfold h7
 by_cases c:x / N<2*bK s
 ·rw [if_pos (.inl c)];unfold fw;rw [if_pos c]
 ·rw [if_neg (fun h=>h.elim c fun h=>Nat.not_lt_zero _ h.2)]
theorem Fo (s:bl)(list:List bh){T N r c:Nat}(aL:c<N){v:Int}(aS:v=fw s list r c):(a3 T (h7 s list N r c)).set (r*N+c) v=a3 T (h7 s list N r (c+1)):=by
 have h2:(r*N+c) / N=r:=by rw [Nat.mul_comm,Nat.mul_add_div (by omega),Nat.div_eq_of_lt aL];rfl
 have af:(r*N+c) % N=c:=by rw [Nat.mul_comm,Nat.mul_add_mod,Nat.mod_eq_of_lt aL]
 rw [oV]
 refine gI fun x _=> ?_
 by_cases e:x=r*N+c
 ·rw [if_pos e,e]
  unfold h7
  rw [h2,af,if_pos (.inr ⟨rfl,by omega⟩),aS]
 ·rw [if_neg e]
  have cb : ¬(x / N=r∧x % N=c):=fun ⟨a,b⟩=>e (by rw [← Nat.div_add_mod x N,a,b,Nat.mul_comm])
  unfold h7
  by_cases g:x / N<r∨(x / N=r∧x % N<c)
  ·rw [if_pos g,if_pos (by omega)]
  ·rw [if_neg g,if_neg (by omega)]
theorem MB (s:bl)(list:List bh){T N r c:Nat}(aS:lB s r c=fw s list r c):a3 T (h7 s list N r c)=a3 T (h7 s list N r (c+1)):=gI fun x _=>by
 unfold h7
 by_cases g:x / N<r∨(x / N=r∧x % N<c)
 ·rw [if_pos g,if_pos (by omega)]
 ·rw [if_neg g]
  by_cases e:x / N=r∧x % N=c
  ·rw [if_pos (.inr ⟨e.1,by omega⟩),e.1,e.2,aS]
  ·rw [if_neg (by omega)]
theorem MC (s:bl)(list:List bh){T N r b:Nat}(er:N=cy s list.length)(aE:b<2*list.length)(ak:r=2*bK s+b):(a3 T (h7 s list N r (bp s))).set (r*N+(bp s+b)) 1=a3 T (h7 s list N (r+1) 0):=by
 have cE:bp s+b<N:=by rw [er];unfold cy;omega
 have h2:(r*N+(bp s+b)) / N=r:=by rw [Nat.mul_comm,Nat.mul_add_div (by omega),Nat.div_eq_of_lt cE];rfl
 have af:(r*N+(bp s+b)) % N=bp s+b:=by rw [Nat.mul_comm,Nat.mul_add_mod,Nat.mod_eq_of_lt cE]
 rw [oV]
 refine gI fun x _=> ?_
 by_cases e:x=r*N+(bp s+b)
 ·rw [if_pos e,e]
  unfold h7
  rw [h2,af,if_pos (.inl (by omega))]
  unfold fw
  rw [if_neg (by omega),if_neg (by omega),if_pos (by omega)]
 ·rw [if_neg e]
  have cb : ¬(x / N=r∧x % N=bp s+b):=fun ⟨a,b⟩=>e (by rw [← Nat.div_add_mod x N,a,b,Nat.mul_comm])
  unfold h7
  by_cases g:x / N<r∨(x / N=r∧x % N<bp s)
  ·rw [if_pos g,if_pos (by omega)]
  ·rw [if_neg g]
   by_cases d:x / N=r
   ·rw [if_pos (.inl (by omega)),d]
    unfold lB fw
    rw [if_neg (by omega),if_neg (by omega),if_neg (by omega),if_neg (by omega)]
   ·rw [if_neg (by omega)]
theorem D4 (s:bl)(v:jw s)(list:List bh){N T r:Nat}{x y d n:Int}(er:bp s≤N)(jy:(r+1)*N≤T)(Pd:T≤100000)(ak:2*bK s≤r)(I:kO s x=some (fC s x))(aI:kO s y=some (fC s y))
 (jj:0≤d*fC s x∧d*fC s x≤100) (lN:0≤n*fC s y∧n*fC s y≤100) (qx:0≤n∧n≤100) (Cb : ∀q,q<bp s→fw s list r q=eQ s x y d n q) (f1 f2 i0 G0:Int) (t37:List bh) (t38 ea ep bn c4:Int) (q1 q2:List Int) :
 sW s.bb s.aR (gr s) f1 f2 i0 G0 (r*N) N t37 t38 ea ep (bp s:Int) bn c4 n d x y q1 q2 0 (a3 T (h7 s list N r 0))=some (a3 T (h7 s list N r (bp s))):=by
 have oM:=nK s
 have cI:=v.2.2.2
 have c8 : ∀q,lB s r q=0:=fun q=>by unfold lB;rw [if_neg (by omega)]
 unfold sW
 obtain ⟨z,e,-⟩:=jr (f:=fun w:Int×List Int=>qL s.bb s.aR (gr s) f1 f2 i0 G0 (r*N) N t37 t38 ea ep (bp s:Int) bn c4 n d x y q1 q2 w.1 w.2) (fun (c:Nat) (_:Unit)=>((c:Int),a3 T (h7 s list N r c))) (bp s) (fun _ _=>True) (fun _=>a3 T (h7 s list N r (bp s)))
  (fun c aL _ _=>by
    refine ⟨(),?_,trivial⟩
    obtain ⟨hO,g8,lR⟩:=r8 s aL
    have aE:=Cb c aL
    have cE:r*N+c<T:=by rw [Nat.succ_mul] at jy;omega
    unfold qL
    simp only
    rw [hY (by omega)]
    refine gW (by omega) (cp (by show _∧((c:Nat):Int)<((bp s:Nat):Int);omega) (bT hO ?_))
    unfold eQ at aE
    by_cases e1:(ho s c:Int)=x
    ·rw [if_pos e1] at aE
     refine fN (by simp only;rw [e1];simp) (bT I (cp (by omega) (cp (by rw [d7,Int.toNat_natCast];omega) ?_)))
     rw [Int.toNat_natCast,cr (by omega) (by omega),Fo s list (by omega) aE.symm]
    ·rw [if_neg e1] at aE
     refine hn (by simp only;exact beq_false_of_ne e1) ?_
     by_cases e2:(ho s c:Int)=y
     ·rw [if_pos e2] at aE
      refine fN (by simp only;rw [e2];simp) (bT aI (cp (by omega) (cp (by rw [d7,Int.toNat_natCast];omega) ?_)))
      have hm:(0-n)*fC s y = -(n*fC s y):=by rw [Int.zero_sub,Int.neg_mul]
      rw [Int.toNat_natCast,cr (x:=0-n) (by omega) (by omega),cr (by omega) (by omega),Fo s list (by omega) aE.symm]
     ·rw [if_neg e2] at aE
      refine hn (by simp only;exact beq_false_of_ne e2) ?_
      rw [MB s list (by rw [c8,aE])])
  (fun _ _=>by unfold qL;exact fu (by simp) rfl) () trivial
 exact e
structure sn (s:bl) (b:bh):Prop where
 jn:kO s b.bi=some (fC s b.bi)
 G1:kO s b.bc=some (fC s b.bc)
 G2:0≤b.de*fC s b.bi∧b.de*fC s b.bi≤100
 G3:0≤b.de*fC s b.bc∧b.de*fC s b.bc≤100
 G4:0≤b.cz*fC s b.bi∧b.cz*fC s b.bi≤100
 G5:0≤b.cz*fC s b.bc∧b.cz*fC s b.bc≤100
 n:0≤b.cz∧b.cz≤100
theorem EM (s:bl)(list:List bh)(i:Nat){q:Nat}(aD:q<bp s):fw s list (2*bK s+2*i) q=eQ s (fV list i).bi (fV list i).bc (fV list i).de (fV list i).cz q:=by
 unfold fw
 rw [if_neg (by omega),if_pos aD,if_pos (by omega),show (2*bK s+2*i-2*bK s) / 2=i by omega]
theorem EN (s:bl)(list:List bh)(i:Nat){q:Nat}(aD:q<bp s):fw s list (2*bK s+2*i+1) q=eQ s (fV list i).bc (fV list i).bi (fV list i).de (fV list i).cz q:=by
 unfold fw
 rw [if_neg (by omega),if_pos aD,if_neg (by omega),show (2*bK s+2*i+1-2*bK s) / 2=i by omega]
theorem KE (s:bl)(v:jw s)(list:List bh)(af:list.length≤3){i:Nat}(an:i<list.length)(aE:sn s (fV list i))(t37:List bh)(t38:Int)(q1 q2:List Int):
 vO s.bb s.aR (gr s) ((2*bK s:Nat):Int) (bp s:Int) (i:Int) t37 t38 (fV list i).bi (fV list i).bc (fD s list.length:Int) (cy s list.length:Int) (fV list i).cz (fV list i).de q1 q2 0 (a3 (fD s list.length*cy s list.length) (h7 s list (cy s list.length) (2*bK s+2*i) 0)) =
  some (a3 (fD s list.length*cy s list.length) (h7 s list (cy s list.length) (2*bK s+2*(i+1)) 0)):=by
 have oM:=nK s
 have mU:=m9 s
 obtain ⟨-,-,a4,cI⟩:=id v
 have cG:fD s list.length≤18:=by unfold fD;omega
 have er:cy s list.length≤22:=by unfold cy;omega
 have GA:bp s≤cy s list.length:=by unfold cy;omega
 have Gz:fD s list.length*cy s list.length≤18*22:=Nat.mul_le_mul cG er
 have fz:len_ dA (gr s)=((bp s:Nat):Int):=cX ..
 have vL:ai ((2:Int)*(i:Int))=((2*i:Nat):Int):=by rw [cr (by omega) (by omega)];omega
 unfold vO
 obtain ⟨z,e,-⟩:=jr (f:=fun w:Int×List Int=>qM s.bb s.aR (gr s) ((2*bK s:Nat):Int) (bp s:Int) (i:Int) t37 t38 (fV list i).bi (fV list i).bc (fD s list.length:Int) (cy s list.length:Int) (fV list i).cz (fV list i).de q1 q2 w.1 w.2)
  (fun (k:Nat) (_:Unit)=>((k:Int),a3 (fD s list.length*cy s list.length) (h7 s list (cy s list.length) (2*bK s+2*i+k) 0))) 2 (fun _ _=>True) (fun _=>a3 (fD s list.length*cy s list.length) (h7 s list (cy s list.length) (2*bK s+2*(i+1)) 0))
  (fun k aV _ _=>by
    refine ⟨(),?_,trivial⟩
    have ak:2*bK s+2*i+k<fD s list.length:=by unfold fD;omega
    have lA:ai (ai (((2*bK s:Nat):Int)+((2*i:Nat):Int))+(k:Int))=((2*bK s+2*i+k:Nat):Int):=by
     rw [cr (x:=((2*bK s:Nat):Int)+((2*i:Nat):Int)) (by omega) (by omega),cr (by omega) (by omega)];omega
    have jT:ai (ai ((bp s:Int)+((2*i:Nat):Int))+(k:Int))=((bp s+(2*i+k):Nat):Int):=by
     rw [cr (x:=(bp s:Int)+((2*i:Nat):Int)) (by omega) (by omega),cr (by omega) (by omega)];omega
    have ct:=Mz (fD s list.length) (cy s list.length) ak (by omega) (by omega) (a3 (fD s list.length*cy s list.length) (h7 s list (cy s list.length) (2*bK s+2*i+k) 0)) (d7 ..) q1 q2
    rw [Nat.zero_add] at ct
    have jy:(2*bK s+2*i+k+1)*cy s list.length≤fD s list.length*cy s list.length:=Nat.mul_le_mul_right _ ak
    have Pd:(2*bK s+2*i+k)*cy s list.length+cy s list.length≤fD s list.length*cy s list.length:=by rw [← Nat.succ_mul];exact jy
    have cE:bp s+(2*i+k)<cy s list.length:=by unfold cy;omega
    have N0:sW s.bb s.aR (gr s) ((2*bK s:Nat):Int) (bp s:Int) (i:Int) (k:Int) ((2*bK s+2*i+k)*cy s list.length) (cy s list.length) t37 t38 (fV list i).bi (fV list i).bc (bp s:Int) (fD s list.length:Int) (cy s list.length:Int) (fV list i).cz (fV list i).de (if (k:Int)=0 then (fV list i).bi else (fV list i).bc) (if (k:Int)=0 then (fV list i).bc else (fV list i).bi) q1 q2 0 (a3 (fD s list.length*cy s list.length) (h7 s list (cy s list.length) (2*bK s+2*i+k) 0)) =
     some (a3 (fD s list.length*cy s list.length) (h7 s list (cy s list.length) (2*bK s+2*i+k) (bp s))):=by
     have:k=0∨k=1:=by omega
     rcases this with rfl|rfl
     ·rw [if_pos (by simp),if_pos (by simp)]
      exact D4 s v list GA jy (by omega) (by omega) aE.jn aE.G1 aE.G2 aE.G5 aE.n (fun q aD=>EM s list i aD) _ _ _ _ _ _ _ _ _ _ _ _
     ·rw [if_neg (by simp),if_neg (by simp)]
      exact D4 s v list GA jy (by omega) (by omega) aE.G1 aE.jn aE.G3 aE.G4 aE.n (fun q aD=>EN s list i aD) _ _ _ _ _ _ _ _ _ _ _ _
    unfold qM
    simp only
    rw [vL,lA,jT,fz,hY (by omega)]
    refine gW (by omega) (cp (by omega) (bT ct (bT N0 (cp (by simp only;omega) (cp (by rw [d7,Int.toNat_natCast];simp only;omega) ?_)))))
    simp only
    rw [Int.toNat_natCast,MC s list rfl (by omega) (by omega)];rfl)
  (fun _ _=>by
    unfold qM
    refine fu (by simp) ?_
    simp only
    rw [show 2*bK s+2*i+2=2*bK s+2*(i+1) by omega]) () trivial
 exact e
theorem Fp {list:List bh}{i:Nat}(an:i<list.length):list[i]? = some (fV list i):=by
 unfold fV
 rw [List.getD_eq_getElem?_getD,List.getElem?_eq_getElem an];rfl
theorem Jr (s:bl)(v:jw s)(l:List Int)(aA:l.length=2*s.bb.length)(aE:∀x∈l,-100≤x∧x≤100)(list:List bh)(af:list.length≤3)(i7:∀b∈list,sn s b):
 s0 s l list=some ((fD s list.length:Int),(cy s list.length:Int),a3 (fD s list.length*cy s list.length) (fun x=>fw s list (x / cy s list.length) (x % cy s list.length)),a3 (fD s list.length) (hp s l),a3 (cy s list.length) fun _=>0):=by
 have oM:=nK s
 have mU:=m9 s
 obtain ⟨-,-,a4,cI⟩:=id v
 have vM:ai ((2:Int)*(len_ eTBlock list))=((2*list.length:Nat):Int):=by rw [cX,cr (by omega) (by omega)];omega
 have bk:=Ln s v l aA aE (2*list.length) (2*list.length) (by omega) (by omega)
 have wr:ai (((2*bK s+2*list.length:Nat):Int)-((2*list.length:Nat):Int))=((2*bK s:Nat):Int):=by rw [cr (by omega) (by omega)];omega
 have fz:len_ dA (gr s)=((bp s:Nat):Int):=cX ..
 unfold s0
 rw [vM]
 refine bT (x:=gr s) (D3 s (by omega)) ?_
 rw [fz]
 refine bT bk ?_
 simp only
 rw [wr]
 refine bT (x:=a3 (fD s list.length*cy s list.length) (fun x=>fw s list (x / cy s list.length) (x % cy s list.length))) ?_ rfl
 unfold yA
 rw [cX]
 obtain ⟨z,e,-⟩:=jr (f:=fun w:Int×List Int=>qN s.bb s.aR (gr s) ((2*bK s:Nat):Int) (bp s:Int) list (list.length:Int) (fD s list.length:Int) (cy s list.length:Int) (a3 (fD s list.length) (hp s l)) (a3 (cy s list.length) fun _=>0) w.1 w.2)
  (fun (i:Nat) (_:Unit)=>((i:Int),a3 (fD s list.length*cy s list.length) (h7 s list (cy s list.length) (2*bK s+2*i) 0))) list.length (fun _ _=>True) (fun _=>a3 (fD s list.length*cy s list.length) (fun x=>fw s list (x / cy s list.length) (x % cy s list.length)))
  (fun i an _ _=>by
    refine ⟨(),?_,trivial⟩
    have c8:=Fp an
    have cf:=KE s v list af an (i7 _ (List.mem_of_getElem? c8)) list (list.length:Int) (a3 (fD s list.length) (hp s l)) (a3 (cy s list.length) fun _=>0)
    unfold qN
    simp only
    rw [hY (by omega)]
    exact gW (by omega) (cp (by omega) (bT (x:=fV list i) (by rw [Int.toNat_natCast];exact c8) (bT cf rfl)))
  )
  (fun _ _=>by
    unfold qN
    refine fu (by simp) ?_
    simp only
    congr 2
    refine gI fun x I=> ?_
    have ak:x / cy s list.length<2*bK s+2*list.length:=Nat.div_lt_of_lt_mul (by rw [Nat.mul_comm];exact I)
    unfold h7
    rw [if_pos (.inl ak)]) () trivial
 have e0:=MA s list (fD s list.length*cy s list.length) (cy s list.length)
 rw [Nat.mul_zero,Nat.add_zero,e0] at e
 exact e
theorem Eo (s:bl)(v:jw s)(list:List bh)(af:list.length≤3){N r fB:Nat}{x y d n:Int}(er:N=cy s list.length)(mG:fB<2*list.length)(ak:r=2*bK s+fB)(I:ki s x=some (fC s x))(aI:ki s y=some (fC s y))
 (jj:0≤d*fC s x∧d*fC s x≤100) (lN:0≤n*fC s y∧n*fC s y≤100) (qx:0≤n∧n≤100) (Cb : ∀q,q<bp s→fw s list r q=eQ s x y d n q) :
 rJ s ⟨x,y,n,d⟩ (N:Int) ((bp s+fB:Nat):Int)=some (a3 N (fw s list r)):=by
 have oM:=nK s
 have cI:=v.2.2.2
 have Rs:bp s+fB<N:=by rw [er];unfold cy;omega
 have Rt:N≤22:=by rw [er];unfold cy;omega
 unfold rJ
 refine cp (by omega) (bT (Dv s (by omega)) ?_)
 simp only
 rw [show (iw s.aR s.aR.length).map cu.iU=a3 (bp s) fun c=>((ho s c:Nat):Int) from E5 s,oX,d7,Int.toNat_natCast,oW]
 refine bT (x:=a3 N fun q=>if q<bp s then fw s list r q else 0) ?_ ?_
 ·unfold Ab
  obtain ⟨z,e,-⟩:=jr (f:=fun w:Int×List Int=>rk ((bp s+fB:Nat):Int) (a3 (bp s) fun c=>((ho s c:Nat):Int)) ((bp s:Nat):Int) s.bb s.aR x y n d w.1 w.2) (fun (c:Nat) (_:Unit)=>((c:Int),a3 N fun q=>if q<c then fw s list r q else 0)) (bp s) (fun _ _=>True) (fun _=>a3 N fun q=>if q<bp s then fw s list r q else 0)
   (fun c aL _ _=>by
     refine ⟨(),?_,trivial⟩
     have aE:=Cb c aL
     have put : ∀a,a=fw s list r c→(a3 N fun q=>if q<c then fw s list r q else 0).set c a=a3 N fun q=>if q<c+1 then fw s list r q else 0:=fun a bV=>by
      rw [oV]
      refine gI fun q _=> ?_
      by_cases e:q=c
      ·subst e;rw [if_pos rfl,if_pos (by omega),bV]
      ·rw [if_neg e]
       by_cases g:q<c
       ·rw [if_pos g,if_pos (by omega)]
       ·rw [if_neg g,if_neg (by omega)]
     unfold rk
     simp only
     rw [hY (by omega)]
     refine gW (by omega) (cp (by rw [d7];omega) (bT (x:=((ho s c:Nat):Int)) (by rw [Int.toNat_natCast];exact kn aL) ?_))
     unfold eQ at aE
     by_cases e1:(ho s c:Int)=x
     ·rw [if_pos e1] at aE
      refine fN (by rw [e1];simp) (bT (by rw [e1];exact I) (cp (by rw [d7];omega) (cp (by rw [d7,Int.toNat_natCast];omega) ?_)))
      rw [Int.toNat_natCast,Nat.zero_add,cr (by omega) (by omega),put _ aE.symm]
     ·rw [if_neg e1] at aE
      refine hn (beq_false_of_ne e1) ?_
      by_cases e2:(ho s c:Int)=y
      ·rw [if_pos e2] at aE
       have hm:(0-n)*fC s y = -(n*fC s y):=by rw [Int.zero_sub,Int.neg_mul]
       refine fN (by rw [e2];simp) (bT (by rw [e2];exact aI) (cp (by rw [d7];omega) (cp (by rw [d7,Int.toNat_natCast];omega) ?_)))
       rw [Int.toNat_natCast,Nat.zero_add,cr (x:=0-n) (by omega) (by omega),cr (by omega) (by omega),put _ aE.symm]
      ·rw [if_neg e2] at aE
       refine hn (beq_false_of_ne e2) ?_
       rw [← put 0 aE.symm]
       congr 3
       rw [oV]
       exact gI fun q _=>by
        by_cases e:q=c
        ·subst e;rw [if_pos rfl,if_neg (by omega)]
        ·rw [if_neg e])
   (fun _ _=>by unfold rk;exact fu (by simp) rfl) () trivial
  have e0:(a3 N fun q=>if q<0 then fw s list r q else 0)=a3 N fun _=>0:=gI fun q _=>by rw [if_neg (by omega)]
  rw [← e0];exact e
 ·refine cp (by rw [d7];omega) (cp (by rw [d7,Int.toNat_natCast];omega) ?_)
  rw [Int.toNat_natCast,Nat.zero_add,oV]
  congr 1
  refine gI fun q _=> ?_
  by_cases e:q=bp s+fB
  ·rw [if_pos e,e];unfold fw;rw [if_neg (by omega),if_neg (by omega),if_pos (by omega)]
  ·rw [if_neg e]
   by_cases g:q<bp s
   ·rw [if_pos g]
   ·rw [if_neg g];unfold fw;rw [if_neg (by omega),if_neg g,if_neg (by omega)]
theorem AF (g:Nat→Nat→Int){N:Nat}(i:Nat):a3 (i*N) (fun x=>g (x / N) (x % N))++a3 N (g i)=a3 ((i+1)*N) fun x=>g (x / N) (x % N):=by
 rw [Nat.succ_mul,w4]
 congr 1
 exact gI fun q aD=>by
  rw [show (i*N+q) / N=i by rw [Nat.mul_comm,Nat.mul_add_div (by omega),Nat.div_eq_of_lt aD];rfl,show (i*N+q) % N=q by rw [Nat.mul_comm,Nat.mul_add_mod,Nat.mod_eq_of_lt aD]]
theorem M4 (s:bl)(list:List bh)(k:Nat){i:Nat}(an:i<2*bK s):a3 (bp s) (hz s i)++a3 k (fun _=>(0:Int))=a3 (bp s+k) (fw s list i):=by
 rw [w4]
 congr 1
 ·exact gI fun q aD=>by unfold fw lB;rw [if_pos an,if_pos ⟨an,aD⟩]
 ·exact gI fun q aD=>by unfold fw lB;rw [if_pos an,if_neg (by omega)]
theorem L6 {α:Type}{T bS n:Nat}(f:Nat→α)(h:bS+n≤T):((a3 T f).drop bS).take n=a3 n fun q=>f (bS+q):=by
 apply List.ext_getElem?
 intro i
 by_cases c:i<n
 ·rw [List.getElem?_take,if_pos c,List.getElem?_drop,kn (by omega),kn c]
 ·rw [List.getElem?_take,if_neg c,List.getElem?_eq_none_iff.2 (by rw [d7];omega)]
theorem Lp (s:bl)(v:jw s)(l:List Int)(list:List bh)(af:list.length≤3)(jm lT:Int)(il iF nv nw:List Int):
 v7 list jm s.bb s.aR ((2*bK s:Nat):Int) (bp s:Int) (a3 (2*bK s*bp s) (fun x=>hz s (x / bp s) (x % bp s))) il iF lT nv nw 0 []=some (a3 (2*bK s*cy s list.length) fun x=>fw s list (x / cy s list.length) (x % cy s list.length)):=by
 have oM:=nK s
 have mU:=m9 s
 obtain ⟨-,-,a4,cI⟩:=id v
 have vM:ai ((2:Int)*(len_ eTBlock list))=((2*list.length:Nat):Int):=by rw [cX,cr (by omega) (by omega)];omega
 have er:cy s list.length≤22:=by unfold cy;omega
 unfold v7
 obtain ⟨z,e,-⟩:=jr (f:=fun w:Int×List Int=>qY list jm s.bb s.aR ((2*bK s:Nat):Int) (bp s:Int) (a3 (2*bK s*bp s) (fun x=>hz s (x / bp s) (x % bp s))) il iF lT nv nw w.1 w.2) (fun (i:Nat) (_:Unit)=>((i:Int),a3 (i*cy s list.length) fun x=>fw s list (x / cy s list.length) (x % cy s list.length))) (2*bK s) (fun _ _=>True) (fun _=>a3 (2*bK s*cy s list.length) fun x=>fw s list (x / cy s list.length) (x % cy s list.length))
  (fun i an _ _=>by
    refine ⟨(),?_,trivial⟩
    have h1:i*bp s≤12*16:=Nat.mul_le_mul (by omega) (by omega)
    have h2:(i+1)*bp s≤2*bK s*bp s:=Nat.mul_le_mul_right _ an
    have a8:(i+1)*bp s=i*bp s+bp s:=Nat.succ_mul i (bp s)
    have Ru:i*cy s list.length≤12*22:=Nat.mul_le_mul (by omega) er
    have e1:ai ((i:Int)*(bp s:Int))=((i*bp s:Nat):Int):=by rw [← Int.natCast_mul,cr (by omega) (by omega)]
    have e2:ai (ai ((i:Int)+1)*(bp s:Int))=(((i+1)*bp s:Nat):Int):=by rw [hY (by omega),← Int.natCast_mul,cr (by omega) (by omega)]
    have row:((a3 (2*bK s*bp s) (fun x=>hz s (x / bp s) (x % bp s))).drop (i*bp s)).take ((i+1)*bp s-i*bp s)=a3 (bp s) (hz s i):=by
     rw [show (i+1)*bp s-i*bp s=bp s by omega,L6 _ (by omega)]
     exact gI fun q aD=>by
      rw [show (i*bp s+q) / bp s=i by rw [Nat.mul_comm,Nat.mul_add_div (by omega),Nat.div_eq_of_lt aD];rfl,show (i*bp s+q) % bp s=q by rw [Nat.mul_comm,Nat.mul_add_mod,Nat.mod_eq_of_lt aD]]
    have N1:a3 (i*cy s list.length) (fun x=>fw s list (x / cy s list.length) (x % cy s list.length))++a3 (bp s) (hz s i)++a3 (2*list.length) (fun _=>(0:Int))=a3 ((i+1)*cy s list.length) fun x=>fw s list (x / cy s list.length) (x % cy s list.length):=by
     rw [List.append_assoc,M4 s list _ an,← AF (fw s list) i];rfl
    unfold qY
    simp only
    rw [e1,e2,vM,Int.toNat_natCast,Int.toNat_natCast,Int.toNat_natCast,row,oW,N1,hY (by omega)]
    refine gW (by omega) (cp (by omega) (cp (by omega) (cp ⟨by omega,by rw [d7];exact h2⟩ (cp (by simp only [List.length_append,d7];omega) (cp (by omega) (cp (by rw [d7,Nat.succ_mul];omega) rfl))))))
  )
  (fun _ _=>by unfold qY;exact fu (by simp) rfl) () trivial
 rw [Nat.zero_mul] at e
 exact e
theorem Lq (s:bl)(v:jw s)(l:List Int)(list:List bh)(af:list.length≤3)(i7:∀b∈list,sn s b∧ki s b.bi=some (fC s b.bi)∧ki s b.bc=some (fC s b.bc))(jm lT:Int)(il iF nv nw:List Int):
 v8 (cy s list.length:Int) list (list.length:Int) s.bb s.aR jm (bp s:Int) il iF nv lT nw 0 (a3 (2*bK s*cy s list.length) fun x=>fw s list (x / cy s list.length) (x % cy s list.length)) (a3 (2*bK s) (hp s l)) =
  some (a3 (fD s list.length*cy s list.length) (fun x=>fw s list (x / cy s list.length) (x % cy s list.length)),a3 (fD s list.length) (hp s l)):=by
 have oM:=nK s
 have mU:=m9 s
 obtain ⟨-,-,a4,cI⟩:=id v
 have er:cy s list.length≤22:=by unfold cy;omega
 unfold v8
 obtain ⟨z,e,-⟩:=jr (f:=fun w:Int×List Int×List Int=>qZ (cy s list.length:Int) list (list.length:Int) s.bb s.aR jm (bp s:Int) il iF nv lT nw w.1 w.2.1 w.2.2) (fun (i:Nat) (_:Unit)=>((i:Int),(a3 ((2*bK s+2*i)*cy s list.length) fun x=>fw s list (x / cy s list.length) (x % cy s list.length)),a3 (2*bK s+2*i) (hp s l))) list.length (fun _ _=>True) (fun _=>(a3 (fD s list.length*cy s list.length) (fun x=>fw s list (x / cy s list.length) (x % cy s list.length)),a3 (fD s list.length) (hp s l)))
  (fun i an _ _=>by
    refine ⟨(),?_,trivial⟩
    have c8:=Fp an
    obtain ⟨aE,hA,xW⟩:=i7 _ (List.mem_of_getElem? c8)
    have vL:ai ((2:Int)*(i:Int))=((2*i:Nat):Int):=by rw [cr (by omega) (by omega)];omega
    have lA:ai ((bp s:Int)+((2*i:Nat):Int))=((bp s+2*i:Nat):Int):=by rw [cr (by omega) (by omega)];omega
    have jT:ai (((bp s+2*i:Nat):Int)+1)=((bp s+(2*i+1):Nat):Int):=by rw [hY (by omega)];rfl
    have r1:=Eo s v list af (r:=2*bK s+2*i) (fB:=2*i) rfl (by omega) rfl hA xW aE.G2 aE.G5 aE.n (fun q aD=>EM s list i aD)
    have r2:=Eo s v list af (r:=2*bK s+2*i+1) (fB:=2*i+1) rfl (by omega) (by omega) xW hA aE.G3 aE.G4 aE.n (fun q aD=>EN s list i aD)
    have hm:(2*bK s+2*i+1+1)*cy s list.length≤18*22:=Nat.mul_le_mul (by omega) er
    have Gy:(2*bK s+2*i+1)*cy s list.length≤18*22:=Nat.mul_le_mul (by omega) er
    have bn:=AF (N:=cy s list.length) (fw s list) (2*bK s+2*i)
    have c4:=AF (N:=cy s list.length) (fw s list) (2*bK s+2*i+1)
    have hP:a3 (2*bK s+2*i) (hp s l)++[0,0]=a3 (2*bK s+2*(i+1)) (hp s l):=by
     rw [show 2*bK s+2*(i+1)=2*bK s+2*i+2 by omega,w4 (2*bK s+2*i) 2]
     congr 1
     have g0 : ∀j,hp s l (2*bK s+2*i+j)=0:=fun j=>by unfold hp;rw [if_neg (by omega)]
     simp only [a3,g0];rfl
    unfold qZ
    simp only
    rw [vL,lA,jT,hY (by omega)]
    refine gW (by omega) (cp (by omega) (bT (x:=fV list i) (by rw [Int.toNat_natCast];exact c8) (bT r1 (cp (by rw [bn,d7];omega) (bT r2 (cp (by rw [bn,c4,d7];omega) (cp (by rw [hP,d7];omega) ?_)))))))
    rw [bn,c4,hP,show 2*bK s+2*i+1+1=2*bK s+2*(i+1) by omega])
  (fun _ _=>by unfold qZ;exact fu (by simp) rfl) () trivial
 exact e
noncomputable def Pe (s:bl)(l:List Int)(list:List bh):iH:=⟨(fD s list.length:Int),(cy s list.length:Int),a3 (fD s list.length*cy s list.length) (fun x=>fw s list (x / cy s list.length) (x % cy s list.length)),a3 (fD s list.length) (hp s l),a3 (cy s list.length) fun _=>0⟩
theorem J6 (s:bl)(v:jw s)(l:List Int)(aA:l.length=2*s.bb.length)(aE:∀x∈l,-100≤x∧x≤100)(list:List bh)(af:list.length≤3)(i7:∀b∈list,sn s b∧ki s b.bi=some (fC s b.bi)∧ki s b.bc=some (fC s b.bc)):
 tp s l list=some (Pe s l list):=by
 have oM:=nK s
 have mU:=m9 s
 obtain ⟨-,-,a4,cI⟩:=id v
 have vM:ai ((2:Int)*(len_ eTBlock list))=((2*list.length:Nat):Int):=by rw [cX,cr (by omega) (by omega)];omega
 have Pt:ai ((bp s:Int)+((2*list.length:Nat):Int))=(cy s list.length:Int):=by rw [cr (by omega) (by omega)];unfold cy;omega
 have Pu:ai (((2*bK s:Nat):Int)+((2*list.length:Nat):Int))=(fD s list.length:Int):=by rw [cr (by omega) (by omega)];unfold fD;omega
 have er:cy s list.length≤22:=by unfold cy;omega
 have xW:a3 (2*bK s) (lb s l)=a3 (2*bK s) (hp s l):=gI fun x I=>by unfold hp;rw [if_pos I]
 unfold tp
 refine bT (J5 s v l aA aE) ?_
 unfold GZ
 simp only [List.nil_append]
 rw [vM,Pt,Pu,Int.toNat_natCast,oW,xW,cX]
 exact cp (by rw [d7];omega) (cp (by omega) (bT (Lp s v l list af _ _ _ _ _ _) (bT (Lq s v l list af i7 _ _ _ _ _ _) rfl)))
theorem J7 (s:bl)(i0:jV s)(b:bh)(sR:pS b)(h:mV s b=some true):sn s b∧ki s b.bi=some (fC s b.bi)∧ki s b.bc=some (fC s b.bc):=by
 obtain ⟨G6,G7⟩:=J2 s i0 b sR h
 obtain ⟨p,p1,p2⟩:=ry s i0
 obtain ⟨lS,lO,GW,sO⟩:=sR
 unfold mV at h
 simp only [p1,Option.bind_eq_bind,Option.bind_some] at h
 cases p with
 | false=>simp at h
 | true =>
  by_cases bn:b.bi=b.bc
  ·simp [bn] at h
  by_cases c4:b.de<1∨b.cz<b.de∨100<b.cz
  ·by_cases a:b.de<1<;>by_cases cl:b.cz<b.de<;>by_cases qs:100<b.cz<;>simp [bn,a,cl,qs] at h<;>omega
  have d1 : ¬b.de<1:=by omega
  have d2 : ¬b.cz<b.de:=by omega
  have d3 : ¬100<b.cz:=by omega
  rcases rP s i0 p1 p2 b.bi lS b.cz (by omega) with ⟨ea,ep⟩|⟨hT,jq,ea,ep,dq,gj,jS,qD,iE⟩
  ·simp [bn,d1,d2,d3,ep] at h
  by_cases sS:(decide (0<jq) && decide (jq*b.cz≤100))=true
  rotate_left
  ·simp only [iE,Option.bind_some] at h
   simp [bn,d1,d2,d3,sS] at h
  rcases rP s i0 p1 p2 b.bc lO b.cz (by omega) with ⟨e1,e2⟩|⟨fv,kN,e1,e2,br,cS,ez,d5,gV⟩
  ·simp only [iE,e2,Option.bind_some] at h
   simp [bn,d1,d2,d3,sS] at h
  by_cases x9:(decide (0<kN) && decide (kN*b.cz≤100))=true
  rotate_left
  ·simp only [iE,gV,Option.bind_some] at h
   simp [bn,d1,d2,d3,sS,x9] at h
  rw [Bool.and_eq_true,decide_eq_true_eq,decide_eq_true_eq] at sS x9
  have yb:fC s b.bi=jq:=by unfold fC;rw [gj];rfl
  have yc:fC s b.bc=kN:=by unfold fC;rw [cS];rfl
  have Rv:b.de*jq≤b.cz*jq:=Int.mul_le_mul_of_nonneg_right (by omega) jS
  have Rw:b.de*kN≤b.cz*kN:=Int.mul_le_mul_of_nonneg_right (by omega) ez
  have lT:0≤b.de*jq:=Int.mul_nonneg (by omega) jS
  have pi:0≤b.de*kN:=Int.mul_nonneg (by omega) ez
  have s1:b.cz*jq=jq*b.cz:=Int.mul_comm _ _
  have s2:b.cz*kN=kN*b.cz:=Int.mul_comm _ _
  obtain ⟨x,x1,x2,-⟩:=AE s i0 p1 b.bi G6.1 G6.2
  obtain ⟨y,il,iF,-⟩:=AE s i0 p1 b.bc G7.1 G7.2
  have fJ:x=jq:=by rw [gj] at x2;exact (Option.some.inj x2).symm
  have fU:y=kN:=by rw [cS] at iF;exact (Option.some.inj iF).symm
  refine ⟨⟨by rw [yb];exact gj,by rw [yc];exact cS,by rw [yb];omega,by rw [yc];omega,by rw [yb];omega,by rw [yc];omega,by omega⟩,by rw [yb,x1,fJ],by rw [yc,il,fU]⟩
theorem KF (s:bl)(i0:jV s)(fO:List bh)(aA:fO.length≤maxLen)(aE:∀b∈fO,pS b):
 (rC s fO=some true∧rD s fO=some true∧fO.length≤3∧ ∀b∈fO,mV s b=some true)∨(rC s fO=some false∧rD s fO=some false):=by
 have hm:=nC
 obtain ⟨p,p1,p2⟩:=ry s i0
 unfold rC rD
 rw [cX]
 by_cases h1:(3:Int)<(fO.length:Nat)
 ·refine .inr ⟨bT p1 ?_,gW h1 rfl⟩
  cases p
  ·exact hn rfl rfl
  ·exact fN rfl (gW h1 rfl)
 cases p with
 | false=>exact .inr ⟨bT p1 (hn rfl rfl),fu h1 (bT p2 (hn rfl rfl))⟩
 | true =>
  have hex : ∀b,∃q:Bool,b∈fO→mV s b=some q∧rI s b=some q:=by
   intro b
   by_cases h:b∈fO
   ·obtain ⟨q,q1,q2⟩:=Kl s i0 b (aE b h)
    exact ⟨q,fun _=>⟨q1,q2⟩⟩
   ·exact ⟨false,fun bY=>absurd bY h⟩
  obtain ⟨f,bk⟩:=Classical.axiomOfChoice hex
  have cf:zW fO (fO.length:Nat) s.bb s.aR 0=some (if fO.all f then .inl () else .inr ()):=by
   refine wS (f:=fun w=>q7 fO (fO.length:Nat) s.bb s.aR w) fO f (fun n x I=> ?_) (by unfold q7;exact fu (by omega) rfl)
   have cE:=ej I
   unfold q7
   rw [i1 (by omega)]
   refine gW (by omega) (cp (by omega) (bT (gt rfl I) (bT (bk x (List.mem_of_getElem? I)).1 ?_)))
   cases f x<;>rfl
  have an:zY fO (fO.length:Nat) s.bb s.aR 0=some (if fO.all f then .inl () else .inr ()):=by
   refine wS (f:=fun w=>q9 fO (fO.length:Nat) s.bb s.aR w) fO f (fun n x I=> ?_) (by unfold q9;exact fu (by omega) rfl)
   have cE:=ej I
   unfold q9
   rw [i1 (by omega)]
   refine gW (by omega) (cp (by omega) (bT (gt rfl I) (bT (bk x (List.mem_of_getElem? I)).2 ?_)))
   cases f x<;>rfl
  cases e:fO.all f with
  | false =>
   rw [e] at cf an
   exact .inr ⟨bT p1 (fN rfl (fu h1 (bT cf rfl))),fu h1 (bT p2 (fN rfl (bT an rfl)))⟩
  | true =>
   rw [e] at cf an
   rw [List.all_eq_true] at e
   exact .inl ⟨bT p1 (fN rfl (fu h1 (bT cf rfl))),fu h1 (bT p2 (fN rfl (bT an rfl))),by omega,fun b aE=>by rw [(bk b aE).1,e b aE]⟩
theorem I7 (s:bl)(i0:jV s)(l:List Int)(aA:l.length≤maxLen)(fO:List bh)(h1:fO.length≤maxLen)(h2:∀b∈fO,pS b):
 ∃a b x y z,x.length≤1000∧y.length≤1000∧z.length≤1000∧tg s l fO=some ⟨a,b,x,y,z⟩∧(rl s l fO=some (.inl (a,b,x,y,z))∨(rl s l fO=some (.inr ())∧(⟨a,b,x,y,z⟩:iH)=⟨0,0,[],[],[]⟩)):=by
 unfold tg rl
 rcases Lo s i0 l aA with ⟨e1,e2,h,aE⟩|⟨e1,e2⟩
 rotate_left
 ·exact ⟨0,0,[],[],[],by simp,by simp,by simp,bT e1 (hn rfl rfl),.inr ⟨bT e2 (hn rfl rfl),rfl⟩⟩
 rcases KF s i0 fO h1 h2 with ⟨g1,g2,af,i7⟩|⟨g1,g2⟩
 rotate_left
 ·exact ⟨0,0,[],[],[],by simp,by simp,by simp,bT e1 (fN rfl (bT g1 (hn rfl rfl))),.inr ⟨bT e2 (fN rfl (bT g2 (hn rfl rfl))),rfl⟩⟩
 have v:=JJ s i0 h
 obtain ⟨-,-,a4,cI⟩:=id v
 have mU:=m9 s
 have oM:=nK s
 have cG:fD s fO.length≤18:=by unfold fD;omega
 have er:cy s fO.length≤22:=by unfold cy;omega
 have Gz:fD s fO.length*cy s fO.length≤18*22:=Nat.mul_le_mul cG er
 obtain ⟨RL,mG⟩:=KD aE
 have bk : ∀b∈fO,sn s b∧ki s b.bi=some (fC s b.bi)∧ki s b.bc=some (fC s b.bc):=fun b aE=>J7 s i0 b (h2 b aE) (i7 b aE)
 exact ⟨_,_,_,_,_,by rw [d7];omega,by rw [d7];omega,by rw [d7];omega,bT e1 (fN rfl (bT g1 (fN rfl (bT (J6 s v l (by omega) mG fO af bk) rfl)))),
  .inl (bT e2 (fN rfl (bT g2 (fN rfl (bT (Jr s v l (by omega) mG fO af (fun b aE=>(bk b aE).1)) rfl)))))⟩
theorem J8 (l:List bh)(h:l.length≤1048576):tm l=some l:=by
 have h1:zM l 0 (List.replicate (len_ eTBlock l).toNat (⟨0,0,0,0⟩:bh))=some l :=
  wH l _ (by simp [cX])
   (fun n x row I ak=>by
     have a6:=ej I
     simp only
     unfold s5
     rw [i1 (by omega)]
     exact gW (by rw [cX];omega) (cp (by omega) (bT (gt rfl I) (bT rfl (cp (by omega) (cp (by omega) (by rw [Int.toNat_natCast,Nat.zero_add])))))))
   (fun row=>by unfold s5;exact fu (by rw [cX];omega) rfl)
 unfold tm
 exact cp (by rw [cX];omega) (bT h1 rfl)
theorem Dw (l:List bh)(h:l.length≤1048576):rE l l=some true:=by
 have h1:z0 l l 0=some (if l.all (fun _=>true) then .inl () else .inr ()):=by
  refine wS (f:=fun w=>rb l l w) l _ (fun n x I=> ?_) (by unfold rb;exact fu (by rw [cX];omega) rfl)
  have cE:=ej I
  unfold rb wv
  rw [i1 (by omega)]
  exact gW (by rw [cX];omega) (cp (by omega) (bT (gt rfl I) (cp (by omega) (bT (gt rfl I) (bT (hn (mQ rfl) (hn (mQ rfl) (hn (mQ rfl) (hn (mQ rfl) rfl)))) (fN rfl rfl))))))
 unfold rE
 exact hn (mQ rfl) (bT h1 (by simp))
theorem J9 (l:List bh)(h:l.length≤maxLen)(r:Int)(h0:0≤r)(ak:r≤1048576): ∃t,tw l r=some t∧(0≤t→l.length≤1048576):=by
 have hm:=nC
 unfold tw
 rw [cX,cr (x:=r-((l.length:Nat):Int)) (by omega) (by omega)]
 by_cases e:r-((l.length:Nat):Int)<0
 ·exact ⟨-1,gW e rfl,by omega⟩
 ·exact ⟨_,fu e rfl,by omega⟩
theorem I8 {k:Int}{l:List bh}(h0:0≤k)(h:k+4*l.length≤1000000000000000000): ∃cc dy,rs k l=some (cc,dy)∧0≤cc:=by
 obtain ⟨⟨cc,Pv⟩,e,e1,-⟩:=jr (f:=fun w:Int×Int×List bh=>pn w.1 w.2.1 w.2.2) (fun (i:Nat) (q:Int×List bh)=>(q.1,(i:Int),q.2)) l.length (fun i q=>0≤q.1∧q.1≤k+4*i∧q.2.length=l.length) (fun q=>q)
  (fun i an q gi=>by
    obtain ⟨ea,ep,dq⟩:=gi
    have AZ : ∀(L:List bh) (x:bh),i<L.length→(L.set i x)[i]? = some x:=fun L x x5=>by rw [List.getElem?_set_self x5]
    have I:=List.getElem?_eq_getElem (show i<q.2.length by omega)
    have step : ∃z:List bh,pn q.1 (i:Int) q.2=some (.inl (q.1+4,((i+1:Nat):Int),z))∧z.length=l.length:=by
     unfold pn
     rw [Int.toNat_natCast,Nat.zero_add]
     refine ⟨?z,gW (by omega) (cp (by omega) (bT I (bT (AZ _ _ (by omega)) (bT (AZ _ _ (by simp only [List.length_set];omega)) (bT (AZ _ _ (by simp only [List.length_set];omega)) ?_))))),?_⟩
     case z=>exact (((q.2.set i ⟨q.1,(q.2[i]'(by omega)).bc,(q.2[i]'(by omega)).cz,(q.2[i]'(by omega)).de⟩).set i ⟨q.1,q.1+1,(q.2[i]'(by omega)).cz,(q.2[i]'(by omega)).de⟩).set i ⟨q.1,q.1+1,q.1+1+1,(q.2[i]'(by omega)).de⟩).set i ⟨q.1,q.1+1,q.1+1+1,q.1+1+1+1⟩
     ·rw [i1 (by omega),cr (x:=q.1+1) (by omega) (by omega),cr (x:=q.1+1+1) (by omega) (by omega),cr (x:=q.1+1+1+1) (by omega) (by omega),cr (by omega) (by omega),show q.1+1+1+1+1=q.1+4 by omega]
     ·simp only [List.length_set];omega
    obtain ⟨z,lT,pi⟩:=step
    exact ⟨(q.1+4,z),lT,by simp only;omega,by simp only;omega,pi⟩)
  (fun q aD=>by simp only;unfold pn;exact fu (by omega) rfl) (k,l) ⟨h0,by simp,rfl⟩
 exact ⟨cc,Pv,by unfold rs zy;exact bT e rfl,e1⟩
theorem Js {k a b:Int}{x y z:List Int}(h0:0≤k)(h:k+x.length+y.length+z.length≤1000000000000000000):tf k a b x y z=some (k+x.length+y.length+z.length,marks k x.length,marks (k+x.length) y.length,marks (k+x.length+y.length) z.length):=by
 unfold tf
 exact bT (wj h0 (by omega)) (cp (by simp only [nD]) (bT (wj (by simp only;omega) (by simp only;omega)) (cp (by simp only [nD]) (bT (wj (by simp only;omega) (by simp only;omega)) (cp (by simp only [nD]) rfl)))))
theorem HF (x0:bl)(x1:List Int)(x2:List bh)(i0:jV x0)(i1:(fun l=>l.length≤maxLen∧ ∀x∈l,lK x) x1)(i2:(fun l=>l.length≤maxLen∧ ∀x∈l,pS x) x2):vU x0 x1 x2=some true:=by
 have hm:=nC
 unfold vU
 rw [cX]
 by_cases h0:(1048576:Int)<(x1.length:Nat)
 ·exact gW h0 rfl
 obtain ⟨r,r1,r2⟩:=Jp x0 i0 1048576 (by omega) (by omega)
 have ak:=JT x0 i0 1048576 (by omega) (by omega) r r1
 refine fu h0 (bT r1 ?_)
 by_cases h2:r<0
 ·exact gW h2 rfl
 obtain ⟨ea,ep⟩:=r2 (by omega)
 obtain ⟨t,t1,t2⟩:=J9 x2 i2.1 r (by omega) ak
 refine fu h2 (bT t1 ?_)
 by_cases af:t<0
 ·exact gW af rfl
 have jj:=t2 (by omega)
 obtain ⟨a,b,x,y,z,lz,mT,vF,q1,q2⟩:=I7 x0 i0 x1 i1.1 x2 i2.1 i2.2
 obtain ⟨hO,lS,f5,d1,d2,d3,Pw,RM⟩:=IH (k:=1) (l:=x0.bb) (m:=x0.aR) (by omega) (by omega)
 have f1:=wj (k:=hO) (l:=x1) Pw (by omega)
 obtain ⟨lR,mr,f3,f4⟩:=I8 (k:=hO+x1.length) (l:=x2) (by omega) (by omega)
 refine fu af (bT (Jq x0 ea ep) (bT (KC x1 (by omega)) (bT (J8 x2 jj) (bT q1 ?_))))
 rcases q2 with g|⟨g,e⟩
 ·refine bT g (bT (Dq _ (by simp only;omega) (by simp only;omega) (by simp only;omega)) (fN rfl (bT (Dh x0 ea ep) (fN rfl (bT (tO x1 (by omega)) (fN rfl (bT (Dw x2 jj) (fN rfl (bT d1 (cp d2.symm (cp d3.symm (bT f1 (bT f3 (fu (by simp only;omega) (bT (Js (by omega) (by simp only;omega)) ?_)))))))))))))))
  simp only
  exact cp (by rw [nD]) (cp (by rw [nD]) (cp (by rw [nD]) (bT (Dr (by omega) (by omega)) (fu (by omega) (hn (mQ rfl) rfl)))))
 ·rw [e]
  have Px:ta 1 0 0 [] [] []=some 1:=by
   unfold ta
   exact bT (Ai 1) (bT (Ai 1) (bT (Ai 1) rfl))
  have h0:pu ⟨0,0,[],[],[]⟩ 1=some 1:=by
   have:=Dr (k:=1) (a:=0) (b:=0) (x:=0) (y:=0) (z:=0) (by omega) (by omega)
   simpa [marks] using this
  exact bT g (bT (Dq _ (by simp) (by simp) (by simp)) (fN rfl (bT (Dh x0 ea ep) (fN rfl (bT (tO x1 (by omega)) (fN rfl (bT (Dw x2 jj) (fN rfl (bT d1 (cp d2.symm (cp d3.symm (bT f1 (bT f3 (fu (by simp only;omega) (bT Px (bT h0 (fu (by omega) (hn rfl rfl))))))))))))))))))
end Go.Proofs.Ytgfpnhmcmgnepaa
