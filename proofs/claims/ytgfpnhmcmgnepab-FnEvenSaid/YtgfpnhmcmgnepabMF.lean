/- Lemmas, plain functions of the program, and what they answer. No condition. -/
import Derived.Test.YtgfpnhmcmgnepabME
namespace Go.Proofs.Ytgfpnhmcmgnepab
set_option linter.unusedVariables false
set_option linter.unusedSimpArgs false
open Go Go.VL
def qg:List ByteArray:=[⟨#[97]⟩,⟨#[98]⟩,⟨#[99]⟩,⟨#[100]⟩]
theorem Wu {k:Nat}{x:ByteArray}(h:qg[k]? = some x):uM x=some true:=by
 have key : ∀u:UInt8,97≤u.toNat→u.toNat≤122→uM ⟨#[u]⟩=some true:=fun u o R=>by
  unfold uM HH
  obtain ⟨_,e,-⟩:=jV (f:=fun w:Int=>w5 ⟨#[u]⟩ (((⟨#[u]⟩:ByteArray).size:Nat):Int) w) (fun (i:Nat) (_:Unit)=>(i:Int)) 1 (fun _ _=>True) (fun _=>(Sum.inl ():Unit⊕Unit))
   (fun i ae _ _=>by
     obtain rfl:i=0:=by omega
     refine ⟨(),?_,trivial⟩
     unfold w5
     have bZ:(((⟨#[u]⟩:ByteArray).size:Nat):Int)=1:=rfl
     rw [bZ]
     refine ee (by omega) (bH (by omega) (aG (x:=true) ?_ (fL rfl rfl)))
     unfold CN
     have dE:((⟨#[u]⟩:ByteArray).data.toList.getD (((0:Nat):Int)).toNat 0)=u:=rfl
     rw [dE]
     exact ee (by omega) (by rw [decide_eq_true (by omega)]))
   (fun _ _=>by unfold w5;exact eY (by show ¬(1:Int)<1;omega) rfl) () trivial
  refine aG e ?_
  simp only
  have cw:((⟨#[u]⟩:ByteArray).toList == (⟨#[]⟩:ByteArray).toList)=false:=by
   simp [ByteArray.toList,ByteArray.toList.loop,ByteArray.size]
  rw [cw];rfl
 match k,h with
 | 0,h=>obtain rfl:=Option.some.inj h;exact key 97 (by decide) (by decide)
 | 1,h=>obtain rfl:=Option.some.inj h;exact key 98 (by decide) (by decide)
 | 2,h=>obtain rfl:=Option.some.inj h;exact key 99 (by decide) (by decide)
 | 3,h=>obtain rfl:=Option.some.inj h;exact key 100 (by decide) (by decide)
 | k+4,h=>simp [qg] at h
theorem Zu {i k:Nat}{x y:ByteArray}(h:qg[i]? = some x)(cr:qg[k]? = some y)(cw:i≠k):(x.toList == y.toList)=false:=by
 have ae:=fo h
 have aZ:=fo cr
 have key : ∀i k:Fin 4,i≠k→((qg[i.1]!).toList == (qg[k.1]!).toList)=false:=by decide +kernel
 have ay:qg[i]! = x:=by simp [h]
 have aD:qg[k]! = y:=by simp [cr]
 have:=key ⟨i,by simpa [qg] using ae⟩ ⟨k,by simpa [qg] using aZ⟩ (fun e=>cw (by simpa using congrArg Fin.val e))
 rw [ay,aD] at this
 exact this
structure KR (s:ct):Prop where
 v:oj s
 ok:sk s=some true
 RS:3≤s.dd.length
 gp:2≤s.cx.length
 aeA:s.dd.map (·.hI)=qg.take s.dd.length
theorem Y0 (s:ct)(az:∀j∈s.dd,-50≤j.gM∧j.gM≤50∧ -50≤j.mz∧j.mz≤50)(hm:∀m∈s.cx,pU s.dd m=true)(bF:s.dd.length≤4)(bx:s.cx.length≤8)(a4:s.dd.map (·.hI)=qg.take s.dd.length)(RS:3≤s.dd.length)(gp:2≤s.cx.length):KR s:=by
 have v:oj s:=⟨fun n j h=>az j (List.mem_of_getElem? h),fun n m h=>hm m (List.mem_of_getElem? h),by omega,bx⟩
 have name : ∀(n:Nat) j,s.dd[n]? = some j→qg[n]? = some j.hI:=fun n j h=>by
  have aS:=fo h
  have e:(s.dd.map (·.hI))[n]? = some j.hI:=by rw [List.getElem?_map,h];rfl
  rw [a4,List.getElem?_take,if_pos aS] at e
  exact e
 exact ⟨v,YZ s v (fun n j h=>Wu (name n j h)) (fun i k x y aa aJ cw=>Zu (name i x aa) (name k y aJ) cw),RS,gp,a4⟩
def KS (s:ct)(l:List Int):Prop:=l.length=2*s.dd.length∧ ∀x∈l,-8≤x∧x≤4
theorem Zv (s:ct)(d:KR s)(l:List Int)(aS:l.length=2*s.dd.length)(aL:∀x∈l,-100≤x∧x≤100):xn s l=some true∧CZ s l=some true:=by
 have e:D7 s.dd.length l=true:=by
  unfold D7
  rw [decide_eq_true aS,Bool.true_and,List.all_eq_true]
  intro x aa
  unfold tD
  exact decide_eq_true (aL x aa)
 have f:=Vh s d.v.2.2.1 l (by rw [aS,NQ];have:=d.v.2.2.1;omega)
 rw [e] at f
 exact ⟨f,aG d.ok (fL rfl (aG f rfl))⟩
theorem KS.dO {s:ct}{l:List Int}(h:KS s l): ∀x∈l,-100≤x∧x≤100:=fun x aa=>by have:=h.2 x aa;omega
theorem RT {α β:Type}{f:α→Option (α⊕β)}{a dx:α}{r:Option β}(h:f a=some (.inl dx))(k:iter f dx=r):iter f a=r:=by rw [iter,h];exact k
theorem RU {α β:Type}{f:α→Option (α⊕β)}{a:α}{b:β}(h:f a=some (.inr b)):iter f a=some b:=by rw [iter,h];rfl
theorem DX (s:ct){k x y r:Int}(a0:pL s k=some (x,y))(aa:-100≤x∧x≤100)(aJ:-100≤y∧y≤100)(h0:0≤r)(h:r*r=x*x+y*y):mC s k=some r:=by
 obtain ⟨n,gY,js,RC,RD,acr⟩:=Wo x y aa aJ
 have e:n=r:=by
  rcases Int.lt_trichotomy n r with c|c|c
  ·have:=Zp (j:=n) (k:=r) js c;omega
  ·exact c
  ·have:=acr r h0 c;omega
 subst e
 have ace:=Og aa
 have acf:=Og aJ
 unfold mC
 refine aG a0 (aG gY (hN ?_ rfl))
 simp only
 rw [cR (x:=x*x) (by omega) (by omega),cR (x:=y*y) (by omega) (by omega),cR (by omega) (by omega),cR (by omega) (by omega),h]
 exact vF rfl
def mg (x y z:Int):List aT:=[⟨⟨#[97]⟩,-3,0,true⟩,⟨⟨#[98]⟩,x,y,true⟩,⟨⟨#[99]⟩,0,-4,false⟩,⟨⟨#[100]⟩,z,-9,true⟩]
structure uf (s:ct) (l:List Int) (b:bu):Prop where
 d:KR s
 Lg:KS s l
 acs:s.dd.length=4
 qo:s.cx[0]? = some ⟨0,2,1⟩
 gd:s.cx[1]? = some ⟨2,1,1⟩
 e0:mC s 0=some 5
 ay : ∃k,mC s 1=some k∧4≤k∧k≤10
 tm:b.cE=0
 iw:b.cF=1
 acu:1≤b.b9∧b.b9≤b.fA∧b.fA≤4
theorem tE {x y z:Int}{fF:List bk}{p q n d:Int}(Bh:(x=3∧y=0)∨(x=0∧y=0)∨(x=8∧y=2))(ca:0≤z∧z<3)(yv:fF=[⟨0,2,1⟩,⟨2,1,1⟩]∨ ∃k,(1≤k∧k≤3)∧fF=[⟨0,2,1⟩,⟨2,1,1⟩,⟨2,3,k⟩])(ad:-4≤p∧p≤4)(a5:-8≤q∧q≤0)(a4:1≤d∧d≤n∧n≤4):
 uf ⟨mg x y z,fF⟩ [0,0,0,0,p,q,0,0] ⟨0,1,n,d⟩:=by
 have aeo:0≤x∧x≤8∧0≤y∧y≤2:=by omega
 have g0:(mg x y z)[0]? = some ⟨⟨#[97]⟩,-3,0,true⟩:=rfl
 have g1:(mg x y z)[1]? = some ⟨⟨#[98]⟩,x,y,true⟩:=rfl
 have g2:(mg x y z)[2]? = some ⟨⟨#[99]⟩,0,-4,false⟩:=rfl
 have g3:(mg x y z)[3]? = some ⟨⟨#[100]⟩,z,-9,true⟩:=rfl
 have aS:(mg x y z).length=4:=rfl
 have RV:pU (mg x y z) ⟨0,2,1⟩=true:=by
  unfold pU
  simp only
  rw [aS,decide_eq_true (by omega),Bool.true_and,show (0:Int).toNat=0 from rfl,show (2:Int).toNat=2 from rfl,g0,g2];simp
 have RW:pU (mg x y z) ⟨2,1,1⟩=true:=by
  unfold pU
  simp only
  rw [aS,decide_eq_true (by omega),Bool.true_and,show (2:Int).toNat=2 from rfl,show (1:Int).toNat=1 from rfl,g2,g1];simp;omega
 have acv : ∀k:Int,1≤k∧k≤3→pU (mg x y z) ⟨2,3,k⟩=true:=fun k aZ=>by
  unfold pU
  simp only
  rw [aS,decide_eq_true (by omega),Bool.true_and,show (2:Int).toNat=2 from rfl,show (3:Int).toNat=3 from rfl,g2,g3];simp
 have hm : ∀m∈fF,pU (mg x y z) m=true:=fun m hm=>by
  rcases yv with rfl|⟨k,aZ,rfl⟩
  ·simp at hm
   rcases hm with rfl|rfl
   ·exact RV
   ·exact RW
  ·simp at hm
   rcases hm with rfl|rfl|rfl
   ·exact RV
   ·exact RW
   ·exact acv k aZ
 have i0:fF[0]? = some ⟨0,2,1⟩:=by rcases yv with rfl|⟨k,-,rfl⟩<;>rfl
 have KT:fF[1]? = some ⟨2,1,1⟩:=by rcases yv with rfl|⟨k,-,rfl⟩<;>rfl
 have v0:pL ⟨mg x y z,fF⟩ 0=some (3,-4):=by
  unfold pL
  exact bH (by simp only;have:=fo i0;omega) (aG i0 (bH (by simp only;omega) (aG g2 (bH (by simp only;omega) (aG g0 rfl)))))
 have v1:pL ⟨mg x y z,fF⟩ 1=some (x,y+4):=by
  unfold pL
  refine bH (by simp only;have:=fo KT;omega) (aG KT (bH (by simp only;omega) (aG g1 (bH (by simp only;omega) (aG g2 ?_)))))
  simp only
  rw [cR (by omega) (by omega),cR (by omega) (by omega)]
  congr 2<;>omega
 have hlen:2≤fF.length∧fF.length≤3:=by rcases yv with rfl|⟨k,-,rfl⟩<;>simp
 refine ⟨Y0 _ (fun j az=> ?_) hm (by simp only;omega) (by simp only;omega) rfl (by simp only;omega) hlen.1,⟨rfl,fun v a0=> ?_⟩,rfl,i0,KT,DX _ v0 (by omega) (by omega) (by omega) (by omega),?_,rfl,rfl,a4⟩
 ·simp [mg] at az
  rcases az with rfl|rfl|rfl|rfl<;>simp<;>omega
 ·simp at a0
  omega
 ·rcases Bh with ⟨rfl,rfl⟩|⟨rfl,rfl⟩|⟨rfl,rfl⟩
  ·exact ⟨5,DX _ v1 (by omega) (by omega) (by omega) (by omega),by omega,by omega⟩
  ·exact ⟨4,DX _ v1 (by omega) (by omega) (by omega) (by omega),by omega,by omega⟩
  ·exact ⟨10,DX _ v1 (by omega) (by omega) (by omega) (by omega),by omega,by omega⟩
theorem Xt (c:List Int)(aO:c.length≤1048576)(i h:Int)(ae:0≤i): ∃fj cr kz fF l b,(xl c i h=some (.inl (fj,cr,kz,fF,l,[b]))∨(xl c i h=some (.inr (fj,cr,kz,fF,l,[b]))∧fF.length=2))∧uf ⟨kz,fF⟩ l b:=by
 unfold xl
 obtain ⟨z,nS,o,ay,ca,vz⟩:=xO 3 (by omega) (by omega) c aO i h ae
 obtain ⟨x,qi,R,aD,aa,vA⟩:=I3 [3,0,8] (by simp) (by simp) c aO nS o vz
 obtain ⟨I,q3,ah,bV,s3⟩:=Pc 2 (by omega) (by omega) c aO qi R vA
 have EZ:x=3∨x=0∨x=8:=by simpa using aa
 have tail : ∀i h,0≤i→ ∃p nS o q qi R n q3 ah t qj aB,lB 9 c i h=some (p,nS,o)∧lB 9 c nS o=some (q,qi,R)∧lB 4 c qi R=some (n,q3,ah)∧rQ 3 c q3 ah=some (t,qj,aB)∧(-4≤U (p-4)∧U (p-4)≤4)∧(-8≤U (0-q)∧U (0-q)≤0)∧(1≤U (1+n)∧U (1+n)≤4):=fun i h ae=>by
  obtain ⟨p,nS,o,ay,ad,vz⟩:=xO 9 (by omega) (by omega) c aO i h ae
  obtain ⟨q,qi,R,aD,a5,vA⟩:=xO 9 (by omega) (by omega) c aO nS o vz
  obtain ⟨n,q3,ah,bV,a4,s3⟩:=xO 4 (by omega) (by omega) c aO qi R vA
  obtain ⟨t,qj,aB,du,E0⟩:=Pc 3 (by omega) (by omega) c aO q3 ah s3
  refine ⟨p,nS,o,q,qi,R,n,q3,ah,t,qj,aB,ay,aD,bV,du,?_,?_,?_⟩
  ·rw [cR (by omega) (by omega)];omega
  ·rw [cR (by omega) (by omega)];omega
  ·rw [cR (by omega) (by omega)];omega
 by_cases g:x=8
 ·subst g
  cases I with
  | true =>
   obtain ⟨k,qj,aB,du,aZ,E0⟩:=I3 [1,2,3] (by simp) (by simp) c aO q3 ah s3
   have BA:1≤k∧k≤3:=by simp at aZ;omega
   obtain ⟨p,uk,aK,q,Lh,bF,n,Li,bS,t,i8,bx,dV,eK,fu,hq,ad,a5,a4⟩:=tail qj aB E0
   cases t with
   | true=>exact ⟨i8,bx,mg 8 2 z,[⟨0,2,1⟩,⟨2,1,1⟩,⟨2,3,k⟩],[0,0,0,0,U (p-4),U (0-q),0,0],⟨0,1,U (1+n),U (1+n)⟩,.inl (aG ay (aG aD (bH (by omega) (aG (x:=(⟨⟨#[98]⟩,8,0,true⟩:aT)) rfl (fL (by simp) (aG bV (fL rfl (aG du (bH (by simp) (aG dV (aG eK (aG fu (aG hq (fL rfl rfl)))))))))))))),tE (.inr (.inr ⟨rfl,rfl⟩)) ca (.inr ⟨k,BA,rfl⟩) ad a5 (by omega)⟩
   | false=>exact ⟨i8,bx,mg 8 2 z,[⟨0,2,1⟩,⟨2,1,1⟩,⟨2,3,k⟩],[0,0,0,0,U (p-4),U (0-q),0,0],⟨0,1,U (1+n),1⟩,.inl (aG ay (aG aD (bH (by omega) (aG (x:=(⟨⟨#[98]⟩,8,0,true⟩:aT)) rfl (fL (by simp) (aG bV (fL rfl (aG du (bH (by simp) (aG dV (aG eK (aG fu (aG hq (hN rfl rfl)))))))))))))),tE (.inr (.inr ⟨rfl,rfl⟩)) ca (.inr ⟨k,BA,rfl⟩) ad a5 (by omega)⟩
  | false =>
   obtain ⟨p,uk,aK,q,Lh,bF,n,Li,bS,t,i8,bx,dV,eK,fu,hq,ad,a5,a4⟩:=tail q3 ah s3
   cases t with
   | true=>exact ⟨i8,bx,mg 8 2 z,[⟨0,2,1⟩,⟨2,1,1⟩],[0,0,0,0,U (p-4),U (0-q),0,0],⟨0,1,U (1+n),U (1+n)⟩,.inr ⟨aG ay (aG aD (bH (by omega) (aG (x:=(⟨⟨#[98]⟩,8,0,true⟩:aT)) rfl (fL (by simp) (aG bV (hN rfl (aG dV (aG eK (aG fu (aG hq (fL rfl rfl))))))))))),rfl⟩,tE (.inr (.inr ⟨rfl,rfl⟩)) ca (.inl rfl) ad a5 (by omega)⟩
   | false=>exact ⟨i8,bx,mg 8 2 z,[⟨0,2,1⟩,⟨2,1,1⟩],[0,0,0,0,U (p-4),U (0-q),0,0],⟨0,1,U (1+n),1⟩,.inr ⟨aG ay (aG aD (bH (by omega) (aG (x:=(⟨⟨#[98]⟩,8,0,true⟩:aT)) rfl (fL (by simp) (aG bV (hN rfl (aG dV (aG eK (aG fu (aG hq (hN rfl rfl))))))))))),rfl⟩,tE (.inr (.inr ⟨rfl,rfl⟩)) ca (.inl rfl) ad a5 (by omega)⟩
 ·cases I with
  | true =>
   obtain ⟨k,qj,aB,du,aZ,E0⟩:=I3 [1,2,3] (by simp) (by simp) c aO q3 ah s3
   have BA:1≤k∧k≤3:=by simp at aZ;omega
   obtain ⟨p,uk,aK,q,Lh,bF,n,Li,bS,t,i8,bx,dV,eK,fu,hq,ad,a5,a4⟩:=tail qj aB E0
   cases t with
   | true=>exact ⟨i8,bx,mg x 0 z,[⟨0,2,1⟩,⟨2,1,1⟩,⟨2,3,k⟩],[0,0,0,0,U (p-4),U (0-q),0,0],⟨0,1,U (1+n),U (1+n)⟩,.inl (aG ay (aG aD (bH (by omega) (aG (x:=(⟨⟨#[98]⟩,x,0,true⟩:aT)) rfl (hN (by simpa using g) (aG bV (fL rfl (aG du (bH (by simp) (aG dV (aG eK (aG fu (aG hq (fL rfl rfl)))))))))))))),tE (by rcases EZ with rfl|rfl|rfl;exact .inl ⟨rfl,rfl⟩;exact .inr (.inl ⟨rfl,rfl⟩);exact absurd rfl g) ca (.inr ⟨k,BA,rfl⟩) ad a5 (by omega)⟩
   | false=>exact ⟨i8,bx,mg x 0 z,[⟨0,2,1⟩,⟨2,1,1⟩,⟨2,3,k⟩],[0,0,0,0,U (p-4),U (0-q),0,0],⟨0,1,U (1+n),1⟩,.inl (aG ay (aG aD (bH (by omega) (aG (x:=(⟨⟨#[98]⟩,x,0,true⟩:aT)) rfl (hN (by simpa using g) (aG bV (fL rfl (aG du (bH (by simp) (aG dV (aG eK (aG fu (aG hq (hN rfl rfl)))))))))))))),tE (by rcases EZ with rfl|rfl|rfl;exact .inl ⟨rfl,rfl⟩;exact .inr (.inl ⟨rfl,rfl⟩);exact absurd rfl g) ca (.inr ⟨k,BA,rfl⟩) ad a5 (by omega)⟩
  | false =>
   obtain ⟨p,uk,aK,q,Lh,bF,n,Li,bS,t,i8,bx,dV,eK,fu,hq,ad,a5,a4⟩:=tail q3 ah s3
   cases t with
   | true=>exact ⟨i8,bx,mg x 0 z,[⟨0,2,1⟩,⟨2,1,1⟩],[0,0,0,0,U (p-4),U (0-q),0,0],⟨0,1,U (1+n),U (1+n)⟩,.inr ⟨aG ay (aG aD (bH (by omega) (aG (x:=(⟨⟨#[98]⟩,x,0,true⟩:aT)) rfl (hN (by simpa using g) (aG bV (hN rfl (aG dV (aG eK (aG fu (aG hq (fL rfl rfl))))))))))),rfl⟩,tE (by rcases EZ with rfl|rfl|rfl;exact .inl ⟨rfl,rfl⟩;exact .inr (.inl ⟨rfl,rfl⟩);exact absurd rfl g) ca (.inl rfl) ad a5 (by omega)⟩
   | false=>exact ⟨i8,bx,mg x 0 z,[⟨0,2,1⟩,⟨2,1,1⟩],[0,0,0,0,U (p-4),U (0-q),0,0],⟨0,1,U (1+n),1⟩,.inr ⟨aG ay (aG aD (bH (by omega) (aG (x:=(⟨⟨#[98]⟩,x,0,true⟩:aT)) rfl (hN (by simpa using g) (aG bV (hN rfl (aG dV (aG eK (aG fu (aG hq (hN rfl rfl))))))))))),rfl⟩,tE (by rcases EZ with rfl|rfl|rfl;exact .inl ⟨rfl,rfl⟩;exact .inr (.inl ⟨rfl,rfl⟩);exact absurd rfl g) ca (.inl rfl) ad a5 (by omega)⟩
theorem UF (c:List Int)(aO:c.length≤1048576): ∃kz fF l b,(zq c=some (.inl (kz,fF,l,[b]))∨(zq c=some (.inr (kz,fF,l,[b]))∧fF.length=2))∧uf ⟨kz,fF⟩ l b:=by
 obtain ⟨h0,e0⟩:=YY c aO
 obtain ⟨fj,cr,kz,fF,l,b,e,d⟩:=Xt c aO 0 h0 (by omega)
 refine ⟨kz,fF,l,b,?_,d⟩
 rcases e with e|⟨e,h⟩
 ·exact .inl (aG e0 (aG e rfl))
 ·exact .inr ⟨aG e0 (aG e rfl),h⟩
theorem Pd {fF:List bk}{k:Nat}{x:bk}(aZ:fF[k]? = some x)(o:x.ju=1): ∀ {n:Nat} {c:dY},n≤fF.length→c∈mm fF n→c.hj=(k:Int)→c.sN=1
 | 0,c,_,h,_=>by simp [mm] at h
 | n+1,c,a4,h,e=>by
  rw [mm,List.mem_append] at h
  rcases h with h|h
  ·exact Pd aZ o (by omega) h e
  ·rw [List.getElem?_eq_getElem (by omega)] at h
   simp only [tT,List.mem_append] at h
   rcases h with h|h
   ·split at h
    ·simp at h
    ·simp at h;subst h;rfl
   ·split at h
    ·simp at h
    ·rename_i cw
     simp at h;subst h
     simp only at e
     have:n=k:=by omega
     subst this
     rw [List.getElem?_eq_getElem (by omega)] at aZ
     exact absurd (by rw [Option.some.inj aZ];exact o) cw
theorem X9 (s:ct){k:Nat}{m:bk}(aZ:s.cx[k]? = some m)(o:m.ju=1){c:Nat}(aO:c<b1 s)(e:hb s c=k):qn s c=1:=by
 obtain ⟨ay,-,-⟩:=va s aO
 have:=Pd aZ o (Nat.le_refl _) (List.mem_of_getElem? (show (mm s.cx s.cx.length)[c]? = _ from ay)) (by simp only;rw [e])
 exact this
theorem Pe (s:ct){k:Nat}{m:bk}(aZ:s.cx[k]? = some m)(o:m.ju=1)(x:Nat→Rat):fY s x (b1 s) k=b8 (b1 s) fun j=>if hb s j=k then x j else 0:=by
 unfold fY
 refine fi fun j az=> ?_
 by_cases e:hb s j=k
 ·rw [if_pos e,if_pos e,X9 s aZ o az e];grind
 ·rw [if_neg e,if_neg e]
theorem PP (s:ct){hC hi:Nat}{pJ pK:bk}(bw:s.cx[hC]? = some pJ)(aL:s.cx[hi]? = some pK)(rM:pJ.ju=1)(rN:pK.ju=1)(cw:hC≠hi)(d n:Int)(x:Nat→Rat):
 b8 (b1 s) (fun j=>(f8 s (hC:Int) (hi:Int) d n j:Rat)*x j)=((d*gT s hC:Int):Rat)*fY s x (b1 s) hC-((n*gT s hi:Int):Rat)*fY s x (b1 s) hi:=by
 rw [Pe s bw rM,Pe s aL rN,← h8,← h8,← qv]
 refine fi fun j _=> ?_
 unfold f8
 by_cases e:hb s j=hC
 ·rw [if_pos (by omega),if_pos e,if_neg (by omega)];grind
 ·rw [if_neg (by omega),if_neg e]
  by_cases g:hb s j=hi
  ·rw [if_pos (by omega),if_pos g,show (0-n)*gT s (hi:Int) = -(n*gT s (hi:Int)) by rw [Int.zero_sub,Int.neg_mul],Rat.intCast_neg];grind
  ·rw [if_neg (by omega),if_neg g];grind
def AV (s:ct)(b:bu)(hC hi:Nat)(x:Nat→Rat):Prop :=
 ((b.b9*gT s hC:Int):Rat)*fY s x (b1 s) hC≤((b.fA*gT s hi:Int):Rat)*fY s x (b1 s) hi∧((b.b9*gT s hi:Int):Rat)*fY s x (b1 s) hi≤((b.fA*gT s hC:Int):Rat)*fY s x (b1 s) hC
theorem Dt (s:ct){x y:Nat→Rat}(h:∀j,j<b1 s→x j=y j)(k:Nat):fY s x (b1 s) k=fY s y (b1 s) k:=fi fun j az=>by rw [h j az]
theorem OA {s:ct}{b:bu}{hC hi:Nat}{pJ pK:bk}(bw:s.cx[hC]? = some pJ)(aL:s.cx[hi]? = some pK)(rM:pJ.ju=1)(rN:pK.ju=1)(cw:hC≠hi)(tn:b.cE=(hC:Int))(rL:b.cF=(hi:Int))(x:Nat→Rat):b8 (eS s [b].length) (fun j=>(hX s [b] (2*c7 s) j:Rat)*x j)=((b.b9*gT s hC:Int):Rat)*fY s x (b1 s) hC-((b.fA*gT s hi:Int):Rat)*fY s x (b1 s) hi+x (b1 s):=by
 have e:b8 (b1 s) (fun j=>(hX s [b] (2*c7 s) j:Rat)*x j)=b8 (b1 s) (fun j=>(f8 s (hC:Int) (hi:Int) b.b9 b.fA j:Rat)*x j):=fi fun j az=>by
  have:=Oy s [b] 0 az
  rw [Nat.mul_zero,Nat.add_zero] at this
  rw [this,show il [b] 0=b from rfl,tn,rL]
 have mw:hX s [b] (2*c7 s) (b1 s)=1:=by unfold hX;rw [if_neg (by omega),if_neg (by omega),if_pos (by omega)]
 have hL:hX s [b] (2*c7 s) (b1 s+1)=0:=by unfold hX;rw [if_neg (by omega),if_neg (by omega),if_neg (by omega)]
 show b8 (b1 s+1+1) _=_
 rw [b8,b8,e,PP s bw aL rM rN cw,mw,hL]
 grind
theorem OB {s:ct}{b:bu}{hC hi:Nat}{pJ pK:bk}(bw:s.cx[hC]? = some pJ)(aL:s.cx[hi]? = some pK)(rM:pJ.ju=1)(rN:pK.ju=1)(cw:hC≠hi)(tn:b.cE=(hC:Int))(rL:b.cF=(hi:Int))(x:Nat→Rat):b8 (eS s [b].length) (fun j=>(hX s [b] (2*c7 s+1) j:Rat)*x j)=((b.b9*gT s hi:Int):Rat)*fY s x (b1 s) hi-((b.fA*gT s hC:Int):Rat)*fY s x (b1 s) hC+x (b1 s+1):=by
 have e:b8 (b1 s) (fun j=>(hX s [b] (2*c7 s+1) j:Rat)*x j)=b8 (b1 s) (fun j=>(f8 s (hi:Int) (hC:Int) b.b9 b.fA j:Rat)*x j):=fi fun j az=>by
  have:=Oz s [b] 0 az
  rw [Nat.mul_zero,Nat.add_zero] at this
  rw [this,show il [b] 0=b from rfl,tn,rL]
 have mw:hX s [b] (2*c7 s+1) (b1 s)=0:=by unfold hX;rw [if_neg (by omega),if_neg (by omega),if_neg (by omega)]
 have hL:hX s [b] (2*c7 s+1) (b1 s+1)=1:=by unfold hX;rw [if_neg (by omega),if_neg (by omega),if_pos (by omega)]
 show b8 (b1 s+1+1) _=_
 rw [b8,b8,e,PP s aL bw rN rM (Ne.symm cw),mw,hL]
 grind
theorem Pf {s:ct}{b:bu}{i:Nat}(ae:i<2*c7 s)(x:Nat→Rat):b8 (eS s [b].length) (fun j=>(hX s [b] i j:Rat)*x j)=b8 (b1 s) (fun j=>(pH s i j:Rat)*x j):=by
 have e:b8 (b1 s) (fun j=>(hX s [b] i j:Rat)*x j)=b8 (b1 s) (fun j=>(pH s i j:Rat)*x j):=fi fun j az=>by
  unfold hX ow;rw [if_pos ae,if_pos ⟨ae,az⟩]
 have mw : ∀q,hX s [b] i (b1 s+q)=0:=fun q=>by unfold hX ow;rw [if_pos ae,if_neg (by omega)]
 show b8 (b1 s+1+1) _=_
 rw [b8,b8,e,mw 1,show hX s [b] i (b1 s)=0 from mw 0]
 grind
theorem Ya {s:ct}{l:List Int}{b:bu}{hC hi:Nat}{pJ pK:bk}(bw:s.cx[hC]? = some pJ)(aL:s.cx[hi]? = some pK)(rM:pJ.ju=1)(rN:pK.ju=1)(cw:hC≠hi)(tn:b.cE=(hC:Int))(rL:b.cF=(hi:Int)){x:Nat→Rat}(h:oh (hB s [b].length) (eS s [b].length) (hX s [b]) (iG s l) x):oh (2*c7 s) (b1 s) (pH s) (ur s l) x∧AV s b hC hi x:=by
 obtain ⟨o,R⟩:=h
 have fk:eS s [b].length=b1 s+2:=rfl
 have di:hB s [b].length=2*c7 s+2:=rfl
 have g0 : ∀j,iG s l (2*c7 s+j)=0:=fun j=>by unfold iG;rw [if_neg (by omega)]
 refine ⟨⟨fun j az=>o j (by omega),fun i ae=> ?_⟩,?_,?_⟩
 ·have:=R i (by omega)
  rw [Pf ae] at this
  rw [this];unfold iG;rw [if_pos ae]
 ·have e:=R (2*c7 s) (by omega)
  rw [OA bw aL rM rN cw tn rL,show iG s l (2*c7 s)=0 from g0 0] at e
  have:=o (b1 s) (by omega)
  grind
 ·have e:=R (2*c7 s+1) (by omega)
  rw [OB bw aL rM rN cw tn rL,g0 1] at e
  have:=o (b1 s+1) (by omega)
  grind
theorem Xu {s:ct}{l:List Int}{b:bu}{hC hi:Nat}{pJ pK:bk}(bw:s.cx[hC]? = some pJ)(aL:s.cx[hi]? = some pK)(rM:pJ.ju=1)(rN:pK.ju=1)(cw:hC≠hi)(tn:b.cE=(hC:Int))(rL:b.cF=(hi:Int)){x:Nat→Rat}(h:oh (2*c7 s) (b1 s) (pH s) (ur s l) x)(ak:AV s b hC hi x):p4 (hB s [b].length) (eS s [b].length) (hX s [b]) (iG s l):=by
 obtain ⟨o,R⟩:=h
 obtain ⟨ax,cH⟩:=ak
 have fk:eS s [b].length=b1 s+2:=rfl
 have di:hB s [b].length=2*c7 s+2:=rfl
 obtain ⟨y,aJ⟩ : ∃y:Nat→Rat,y=fun j=>if j<b1 s then x j else if j=b1 s then ((b.fA*gT s hi:Int):Rat)*fY s x (b1 s) hi-((b.b9*gT s hC:Int):Rat)*fY s x (b1 s) hC else ((b.fA*gT s hC:Int):Rat)*fY s x (b1 s) hC-((b.b9*gT s hi:Int):Rat)*fY s x (b1 s) hi:=⟨_,rfl⟩
 have um : ∀j,j<b1 s→y j=x j:=fun j az=>by rw [aJ];exact if_pos az
 have fM:y (b1 s)=((b.fA*gT s hi:Int):Rat)*fY s x (b1 s) hi-((b.b9*gT s hC:Int):Rat)*fY s x (b1 s) hC:=by rw [aJ];simp
 have ef:y (b1 s+1)=((b.fA*gT s hC:Int):Rat)*fY s x (b1 s) hC-((b.b9*gT s hi:Int):Rat)*fY s x (b1 s) hi:=by rw [aJ];simp only;rw [if_neg (by omega),if_neg (by omega)]
 have g0 : ∀j,iG s l (2*c7 s+j)=0:=fun j=>by unfold iG;rw [if_neg (by omega)]
 refine ⟨y,fun j az=> ?_,fun i ae=> ?_⟩
 ·by_cases c:j<b1 s
  ·rw [um j c];exact o j c
  ·have:j=b1 s∨j=b1 s+1:=by omega
   rcases this with rfl|rfl
   ·rw [fM];grind
   ·rw [ef];grind
 ·by_cases c:i<2*c7 s
  ·rw [Pf c,fi (g:=fun j=>(pH s i j:Rat)*x j) fun j az=>by rw [um j az],R i c]
   unfold iG;rw [if_pos c]
  ·have:i=2*c7 s∨i=2*c7 s+1:=by omega
   rcases this with rfl|rfl
   ·rw [OA bw aL rM rN cw tn rL,Dt s um,Dt s um,fM,show iG s l (2*c7 s)=0 from g0 0];grind
   ·rw [OB bw aL rM rN cw tn rL,Dt s um,Dt s um,ef,g0 1];grind
theorem MT (l:List Int)(h:l.length≤1048576):xX l l=some true:=by
 have o:Im l l (len_ J l) 0=some (if l.all (fun _=>true) then .inl () else .inr ()):=by
  refine Oa (f:=fun w=>xi l l (len_ J l) w) l _ (fun n x aa=> ?_) (by unfold xi;exact eY (by rw [h1];omega) rfl)
  have dn:=fo aa
  unfold xi
  rw [nS (by omega)]
  exact ee (by rw [h1];omega) (bH (by omega) (aG (gt rfl aa) (bH (by omega) (aG (gt rfl aa) (hN (vF rfl) rfl)))))
 unfold xX
 exact hN (vF rfl) (aG o (by simp))
theorem UG {x:Rat}(h:gD x):uG (ov x) (ov x)=some true:=by
 have p:=h.df
 have o:=p.vk
 have R:=p.vl
 unfold uG
 exact fL (by simp) (aG (MT _ (show (L (hO x).1.natAbs).length≤_ by omega)) (fL rfl (aG (MT _ (show (L (hO x).2).length≤_ by omega)) rfl)))
theorem Zw {x y:Rat}(aa:gD x)(aJ:gD y)(h:gD (x*y)):Dp (fh x) (fh y)=some (fh (x*y)):=aG (O8 aa aJ) (aG (P7 h) rfl)
theorem OC {x y:Rat}(aa:gD x)(aJ:gD y)(h:gD (x*y)):ss (ov x) (ov y)=some (ov (x*y)):=aG (PL aa) (aG (PL aJ) (aG (Zw aa aJ h) (aG (I2 h) rfl)))
theorem OD {n:Int}(h:pp n):sl n=some (ov (n:Rat)):=aG (DJ h) (aG (I2 (DI h)) rfl)
structure En (K:Nat) (z:Nat→Rat) (w:Rat):Prop where
 pos:0<w
 nU:dv K w
 acw : ∀k,dv K (z k*w)
 abT:1000*K≤21*100*(eg*eg)
theorem En.fit {K:Nat}{z:Nat→Rat}{w x:Rat}(h:En K z w){a:Nat}(bw:a≤1000)(aa:dv (a*K) (x*w)):gD x:=by
 have ad:=h.pos
 have o:=h.abT
 have R:a*K≤1000*K:=Nat.mul_le_mul_right _ bw
 exact yj (K:=21*100*(eg*eg)) (h.nU.mono (by omega)) (aa.mono (by omega)) (by grind) (by grind) (tM (Nat.le_refl _))
theorem dv.int {z:Int}{K:Nat}(h:z.natAbs≤K):dv K (z:Rat):=⟨z,rfl,h⟩
theorem En.fits {K:Nat}{z:Nat→Rat}{w:Rat}(h:En K z w){n:Nat}(a4:n≤8){e:Nat→Int}(he:∀k,-100≤e k∧e k≤100){f:Int}(b7:-100≤f∧f≤100):gD (b8 n (fun k=>z k*(e k:Rat))+(f:Rat)):=h.fit (a:=n*100+100) (by omega) (by
 have ay:(b8 n (fun k=>z k*(e k:Rat))+(f:Rat))*w=b8 n (fun k=>(e k:Rat)*(z k*w))+(f:Rat)*w:=by
  rw [Rat.add_mul,← xy]
  congr 1
  exact fi fun k _=>by grind
 rw [ay,Nat.add_mul]
 refine dv.add ?_ ((dv.int (by omega)).mul h.nU)
 rw [Nat.mul_assoc]
 exact dv.sum fun k _=>(dv.int (by have:=he k;omega)).mul (h.acw k))
theorem Pg {s:ct}{x:Nat→Rat}{w:Rat}{m:Nat}(hm:m≤20)(pG:b1 s≤16)(ad:0<w)(hw:dv (j4 100 m) w)(aa:∀j,dv (j4 100 m) (x j*w))(k:Nat){z:Int}(ca:z.natAbs≤100):gD (fY s x (b1 s) k*(z:Rat)):=by
 have o:=Qa aa k (Nat.le_refl (b1 s))
 have ha:=PM hm
 have R:b1 s*j4 100 m≤16*eg:=Nat.mul_le_mul (by omega) ha
 have ah:b1 s*j4 100 m*100≤40*(eg*100):=by omega
 have aB:dv (b1 s*j4 100 m*100) (fY s x (b1 s) k*w*(z:Rat)):=o.mul ⟨z,rfl,ca⟩
 exact yj (K:=21*100*(eg*eg)) (hw.mono (Nat.le_trans ha Ej)) (aB.mono (Nat.le_trans ah El)) (by grind) (by grind) (tM (Nat.le_refl _))
structure ys (b:bu):Prop where
 wi:b.cE=0
 wj:b.cF=1
 acx:1≤b.b9∧b.b9≤b.fA∧b.fA≤10
theorem OE {s:ct}{l:List Int}{tm:bu}(D:uf s l tm){b:bu}(h:ys b):xr s b=some true∧tu s [b]=some true∧Em s b:=by
 obtain ⟨k,ay,BN,KU⟩:=D.ay
 have e0:=D.e0
 obtain ⟨rE,pE,E2⟩:=h.acx
 have y1:=fo D.qo
 have lW:=fo D.gd
 have Rw : ∀(i:Nat) (a c:Int),s.cx[i]? = some ⟨a,c,1⟩→wS s (i:Int)=some true:=fun i a c ae=>by
  have:=fo ae
  unfold wS
  exact ee (by omega) (ee (by rw [h1];omega) (bH (by omega) (aG (gt rfl ae) rfl)))
 have ad:k*b.fA≤10*10:=Int.mul_le_mul KU E2 (by omega) (by omega)
 have yY:0≤k*b.fA:=Int.mul_nonneg (by omega) (by omega)
 have a5:k*b.b9≤10*10:=Int.mul_le_mul KU (by omega) (by omega) (by omega)
 have nG:0≤k*b.b9:=Int.mul_nonneg (by omega) (by omega)
 have ok:xr s b=some true:=by
  unfold xr
  rw [h.wi,h.wj]
  refine aG D.d.ok (fL rfl (hN rfl (aG (Rw 0 _ _ D.qo) (fL rfl (aG (Rw 1 _ _ D.gd) (fL rfl (eY (by omega) (eY (by omega) (eY (by omega) (bH (by omega) (aG (x:=⟨0,2,1⟩) (gt (show (0:Int)=((0:Nat):Int) from rfl) D.qo) (bH (by omega) (aG (x:=⟨2,1,1⟩) (gt (show (1:Int)=((1:Nat):Int) from rfl) D.gd) ?_)))))))))))))
  refine aG (x:= -1) rfl (ee (by omega) (aG (x:=1) rfl (eY (by omega) (aG e0 (aG ay (ee (by omega) (ee (by omega) ?_)))))))
  rw [cR (by omega) (by omega),cR (by omega) (by omega)]
  exact ee (by omega) (by rw [decide_eq_true (by omega)])
 refine ⟨ok,?_,?_⟩
 ·unfold tu
  have hlen:len_ cL [b]=1:=by rw [h1];rfl
  rw [hlen]
  refine eY (by omega) (aG D.d.ok (fL rfl (aG (x:= .inl ()) ?_ rfl)))
  have ix:ux [b] 1 s.dd s.cx ((0:Nat):Int)=some (.inl ((1:Nat):Int)):=by
   unfold ux
   exact ee (by omega) (bH (by show 0≤((0:Nat):Int)∧((0:Nat):Int)<((1:Nat):Int);omega) (aG (x:=b) rfl (aG ok (fL rfl rfl))))
  have s1:ux [b] 1 s.dd s.cx ((1:Nat):Int)=some (.inr (.inl ())):=by unfold ux;exact eY (by omega) rfl
  exact RT (dx:=((1:Nat):Int)) ix (RU s1)
 ·have qo:gT s 0=5:=by unfold gT;rw [e0];rfl
  have gd:gT s 1=k:=by unfold gT;rw [ay];rfl
  have bp:b.b9*k=k*b.b9:=Int.mul_comm _ _
  have cZ:b.fA*k=k*b.fA:=Int.mul_comm _ _
  refine ⟨by rw [h.wi,qo,e0],by rw [h.wj,gd,ay],?_,?_,?_,?_,by omega⟩
  ·rw [h.wi,qo];omega
  ·rw [h.wj,gd];omega
  ·rw [h.wi,qo];omega
  ·rw [h.wj,gd];omega
theorem Yb (s:ct)(v:oj s){l:List Int}(aL:∀x∈l,-100≤x∧x≤100){b:bu}(gL:Em s b):pA ⟨(hB s [b].length:Int),(eS s [b].length:Int),bj (hB s [b].length*eS s [b].length) (fun x=>hX s [b] (x / eS s [b].length) (x % eS s [b].length)),bj (hB s [b].length) (iG s l),bj (eS s [b].length) fun _=>0⟩ (hB s [b].length) (eS s [b].length) (hX s [b]) (iG s l) where
 rows:=rfl
 gi:=rfl
 ou:=dH ..
 JJ:=fun i ae j az=>by
  have o:i*eS s [b].length+j<hB s [b].length*eS s [b].length:=by
   have:(i+1)*eS s [b].length≤hB s [b].length*eS s [b].length:=Nat.mul_le_mul_right _ ae
   rw [Nat.succ_mul] at this;omega
  show (bj _ _)[_]? = _
  rw [im o]
  have R:(i*eS s [b].length+j) / eS s [b].length=i:=by rw [Nat.mul_comm,Nat.mul_add_div (by omega),Nat.div_eq_of_lt az];rfl
  have ah:(i*eS s [b].length+j) % eS s [b].length=j:=by rw [Nat.mul_comm,Nat.mul_add_mod,Nat.mod_eq_of_lt az]
  rw [R,ah]
 BQ:=dH ..
 Qt:=fun i ae=>im ae
 hm:=by
  obtain ⟨-,-,f3,f4⟩:=id v
  have:=yk s
  show 2*c7 s+2≤20;omega
 a4:=by
  obtain ⟨-,-,f3,f4⟩:=id v
  have:=sQ s
  show b1 s+2≤40;omega
 BP:=fun i ae j az=>by
  have bp : ∀y q:Int,(0-q)*y = -(q*y):=fun y q=>by rw [Int.zero_sub,Int.neg_mul]
  obtain ⟨-,-,gf,fm,aV,f6,-⟩:=gL
  have vA:i<2*c7 s+2:=ae
  unfold hX ow
  by_cases c:i<2*c7 s
  ·rw [if_pos c]
   by_cases d:j<b1 s
   ·rw [if_pos ⟨c,d⟩];exact P9 s v i d
   ·rw [if_neg (by omega)];omega
  ·rw [if_neg c]
   by_cases d:j<b1 s
   ·rw [if_pos d,show il [b] ((i-2*c7 s) / 2)=b by rw [show (i-2*c7 s) / 2=0 by omega];rfl]
    unfold f8
    rw [bp,bp]
    split
    ·split
     ·omega
     ·split<;>omega
    ·split
     ·omega
     ·split<;>omega
   ·rw [if_neg d];split<;>omega
 E9:=fun i _=>by
  unfold iG ur
  split
  ·rw [List.getD_eq_getElem?_getD]
   cases e:l[2*kw s (i / 2)+i % 2]? with
   | none=>simp
   | some x=>have:=aL x (List.mem_of_getElem? e);simp only [Option.getD_some];omega
  ·omega
theorem IR {s:ct}{l:List Int}{tm:bu}(D:uf s l tm){b:bu}(h:ys b):
 (¬p4 (hB s [b].length) (eS s [b].length) (hX s [b]) (iG s l)∧qp s l [b]=some ([],false)) ∨
   ∃x w,Qy (hB s [b].length) (eS s [b].length) (hX s [b]) (iG s l) (mB (eS s [b].length) fun _=>0) x w∧qp s l [b]=some (bj s.cx.length (fun k=>ov (fY s x (b1 s) k)),true):=by
 obtain ⟨b0,bg,fK⟩:=OE D h
 have v:=D.d.v
 have bx:=v.2.2.2
 have pG:=sQ s
 have aS:=D.Lg.1
 have aL:=D.Lg.dO
 have ad:=Yb s v aL fK
 have ok:=(Zv s D.d l aS aL).2
 have RX:=Ub s v l aS aL [b] (by simp) (fun jB pr=>by rw [List.mem_singleton.1 pr];exact fK)
 unfold qp
 rcases X3 s v ad (c:=fun _=>0) rfl (fun j _=>by omega) (by show b1 s≤b1 s+2;omega) with ⟨q,e⟩|⟨q,bi,e⟩|⟨x,w,r,q,e⟩
 ·exact .inl ⟨q,aG ok (fL rfl (aG bg (fL rfl (aG RX (aG e (hN rfl rfl))))))⟩
 ·exact (bi UW).elim
 ·exact .inr ⟨x,w,q,aG ok (fL rfl (aG bg (fL rfl (aG RX (aG e (fL rfl (aG (Wt (by omega) fun k _=>DW ad.hm (by omega) q.pos q.nU q.BT k (Nat.le_refl _)) rfl)))))))⟩
theorem Wv (s:ct)(l:List Int)(b:bu):Gk l [b] (len_ cL [b]) s.dd s.cx 0 (List.replicate (len_ cL [b]).toNat (⟨0,0,0,0⟩:bu))=some [⟨b.cE,b.cF,1,1⟩]:=by
 have hlen:len_ cL [b]=1:=by rw [h1];rfl
 have e0:List.replicate (Int.toNat 1) (⟨0,0,0,0⟩:bu)=[⟨0,0,0,0⟩]:=rfl
 rw [hlen,e0]
 have ix:uu l [b] 1 s.dd s.cx ((0:Nat):Int) [⟨0,0,0,0⟩]=some (.inl (((1:Nat):Int),[⟨b.cE,b.cF,1,1⟩])):=by
  unfold uu
  exact ee (by omega) (bH (by show 0≤((0:Nat):Int)∧((0:Nat):Int)<((1:Nat):Int);omega) (aG (x:=b) rfl (bH (by show 0≤((0:Nat):Int)∧((0:Nat):Int)<((1:Nat):Int);omega) (bH (by simp) rfl))))
 have s1:uu l [b] 1 s.dd s.cx ((1:Nat):Int) [⟨b.cE,b.cF,1,1⟩]=some (.inr [⟨b.cE,b.cF,1,1⟩]):=by unfold uu;exact eY (by omega) rfl
 exact RT (dx:=(((1:Nat):Int),[⟨b.cE,b.cF,1,1⟩])) ix (RU s1)
theorem holds_of {s:ct}{l:List Int}{b:bu}{q g7:List gC}{z K0:Bool}(h:qp s l [b]=some (q,z))(cr:qp s l [⟨b.cE,b.cF,1,1⟩]=some (g7,K0)):qq s l [b]=some (z && !K0):=by
 have hlen:len_ cL [b]=1:=by rw [h1];rfl
 unfold qq
 refine aG h ?_
 cases z with
 | false=>exact hN rfl rfl
 | true=>exact fL rfl (bH (by rw [hlen];omega) (aG (Wv s l b) (aG cr rfl)))
theorem Xv {s:ct}{l:List Int}{tm:bu}(D:uf s l tm){b:bu}(h:ys b){x:Nat→Rat}(aa:oh (hB s [b].length) (eS s [b].length) (hX s [b]) (iG s l) x):
 oh (2*c7 s) (b1 s) (pH s) (ur s l) x∧AV s b 0 1 x:=Ya D.qo D.gd rfl rfl (by omega) h.wi h.wj aa
theorem Ww {s:ct}{l:List Int}{tm:bu}(D:uf s l tm){b:bu}(h:ys b){x:Nat→Rat}(o:oh (2*c7 s) (b1 s) (pH s) (ur s l) x)(R:AV s b 0 1 x):p4 (hB s [b].length) (eS s [b].length) (hX s [b]) (iG s l):=Xu D.qo D.gd rfl rfl (by omega) h.wi h.wj o R
theorem NU {s:ct}{l:List Int}{b:bu}(D:uf s l b)(N:Int)(fk:N=(s.cx.length:Nat)):
 (qp s l [⟨b.cE,b.cF,b.b9,b.b9⟩] >>= fun eU =>
   if eU.2=true then
    if ((len_ fZ eU.1) != N)=true then
     some false
    else
     if 0≤(0:Int)∧(0:Int)<eU.1.length then
     eU.1[0]? >>= fun kH =>
     rS s 0 >>= fun dU =>
     sl dU >>= fun iF =>
     ss kH iF >>= fun pw =>
     if 0≤(1:Int)∧(1:Int)<eU.1.length then
     eU.1[1]? >>= fun Bl =>
     rS s 1 >>= fun vO =>
     sl vO >>= fun yU =>
     ss Bl yU >>= fun yV =>
     su pw >>= fun tb =>
     if tb=true then
      uG pw yV >>= fun ua =>
      if ua=true then
       qq s l [⟨b.cE,b.cF,b.b9,b.b9⟩] >>= fun vP =>
       some (!vP)
      else
       some false
     else
      some false
     else none
     else none
   else
    tu s [⟨b.cE,b.cF,b.b9,b.b9⟩] >>= fun dG =>
    if dG=true then
     qq s l [⟨b.cE,b.cF,b.b9,b.b9⟩] >>= fun fB =>
     some (!fB)
    else
     some false)=some true:=by
 obtain ⟨k,ay,BN,KU⟩:=D.ay
 obtain ⟨rE,pE,E2⟩:=D.acu
 have y1:=fo D.qo
 have lW:=fo D.gd
 have v:=D.d.v
 have bx:=v.2.2.2
 have pG:=sQ s
 have uh:=yk s
 have bF:=v.2.2.1
 obtain ⟨c,aO⟩ : ∃c:bu,c=⟨b.cE,b.cF,b.b9,b.b9⟩:=⟨_,rfl⟩
 have abU:c.cE=b.cE:=by rw [aO]
 have abV:c.cF=b.cF:=by rw [aO]
 have Rx:c.fA=b.b9:=by rw [aO]
 have Ry:c.b9=b.b9:=by rw [aO]
 have o:ys c:=⟨by rw [abU,D.tm],by rw [abV,D.iw],by rw [Rx,Ry];omega⟩
 have R:ys ⟨c.cE,c.cF,1,1⟩:=⟨by rw [← o.wi],by rw [← o.wj],by simp⟩
 rw [← aO]
 rcases IR D o with ⟨gY,hL⟩|⟨x,w,q,hL⟩
 ·have gJ:qq s l [c]=some false:=by
   rcases IR D R with ⟨_,jE⟩|⟨_,_,_,jE⟩<;>exact holds_of hL jE
  exact aG hL (hN rfl (aG (OE D o).2.1 (fL rfl (aG gJ rfl))))
 obtain ⟨aW,bi⟩:=Xv D o q.pu.1
 have qo:gT s 0=5:=by unfold gT;rw [D.e0];rfl
 have gd:gT s 1=k:=by unfold gT;rw [ay];rfl
 have aU:(0:Rat)<(b.b9:Rat):=Rat.intCast_pos.2 (by omega)
 have key:fY s x (b1 s) 0*((5:Int):Rat)=fY s x (b1 s) 1*((k:Int):Rat):=by
  obtain ⟨ax,cH⟩:=bi
  rw [Rx,Ry,show ((0:Nat):Int)=0 from rfl,show ((1:Nat):Int)=1 from rfl,qo,gd,Rat.intCast_mul,Rat.intCast_mul] at ax cH
  have EX:(b.b9:Rat)*(fY s x (b1 s) 0*((5:Int):Rat))≤(b.b9:Rat)*(fY s x (b1 s) 1*(k:Rat)):=by grind
  have abW:(b.b9:Rat)*(fY s x (b1 s) 1*(k:Rat))≤(b.b9:Rat)*(fY s x (b1 s) 0*((5:Int):Rat)):=by grind
  exact Rat.le_antisymm (Rat.le_of_mul_le_mul_left EX aU) (Rat.le_of_mul_le_mul_left abW aU)
 have aah:qq s l [c]=some false:=by
  rcases IR D R with ⟨js,jE⟩|⟨_,_,_,jE⟩
  ·refine (js (Ww D R aW ?_)).elim
   unfold AV
   simp only
   rw [show ((0:Nat):Int)=0 from rfl,show ((1:Nat):Int)=1 from rfl,qo,gd,Int.one_mul,Int.one_mul]
   constructor<;>grind
  ·exact holds_of hL jE
 have hm:hB s [c].length≤20:=by show 2*c7 s+2≤20;omega
 have f0:gD (fY s x (b1 s) 0):=DW hm (by omega) q.pos q.nU q.BT 0 (Nat.le_refl _)
 have f1:gD (fY s x (b1 s) 1):=DW hm (by omega) q.pos q.nU q.BT 1 (Nat.le_refl _)
 have uk:pp 5:=oz.2 (by omega)
 have RY:pp k:=oz.2 (by omega)
 have g0:gD (fY s x (b1 s) 0*((5:Int):Rat)):=Pg hm (by omega) q.pos q.nU q.BT 0 (by decide)
 have g1:gD (fY s x (b1 s) 1*((k:Int):Rat)):=Pg hm (by omega) q.pos q.nU q.BT 1 (by omega)
 have len : ∀(i:Nat) z,i<s.cx.length→mC s (i:Int)=some z→rS s (i:Int)=some z:=fun i z ae ca=>by
  unfold rS CI
  exact aG (ee (by omega) (ee (by rw [h1];omega) (aG D.d.ok rfl))) (fL rfl (aG ca rfl))
 refine aG hL (fL rfl (hN ?_ (bH (by rw [dH];omega) (aG (im y1) (aG (len 0 _ y1 D.e0) (aG (OD uk) (aG (OC f0 (DI uk) g0) (bH (by rw [dH];omega) (aG (im lW) (aG (len 1 _ lW ay) (aG (OD RY) (aG (OC f1 (DI RY) g1) (aG (Ox g0) (fL rfl (aG ?_ (fL rfl (aG aah rfl)))))))))))))))))
 ·simp only
  rw [h1,dH,fk]
  exact vF rfl
 ·rw [key];exact UG g1
theorem Uc (x0:List Int)(i0:(fun l=>l.length≤maxLen∧ ∀x∈l,(fun _=>True) x) x0):C0 x0=some true:=by
 unfold C0
 by_cases h0:(1048576:Int)<len_ eU8 x0
 ·exact ee h0 rfl
 have aO:x0.length≤1048576:=by rw [h1] at h0;omega
 obtain ⟨kz,fF,l,b,e,D⟩:=UF x0 aO
 have az:kz.length=4:=D.acs
 have aS:l.length=8:=by have:=D.Lg.1;simp only at this;omega
 have RZ:(kz.drop 0).take 4=kz:=List.take_of_length_le (by simp;omega)
 have bN:(l.drop 0).take 8=l:=List.take_of_length_le (by simp;omega)
 refine eY h0 ?_
 rcases e with e|⟨e,hm⟩
 ·refine aG e ?_
  refine bH (by omega) (aG (x:=b) rfl (bH (by simp only;omega) (bH (by simp only;omega) (bH (by simp) ?_))))
  simp only [RZ,bN]
  exact NU D _ rfl
 ·have rJ:(fF.drop 0).take 2=fF:=List.take_of_length_le (by simp;omega)
  refine aG e ?_
  refine bH (by omega) (aG (x:=b) rfl (bH (by simp only;omega) (bH (by simp only;omega) (bH (by simp only;omega) (bH (by simp) ?_)))))
  simp only [RZ,bN,rJ]
  exact NU D _ (by simp only;rw [hm];rfl)
end Go.Proofs.Ytgfpnhmcmgnepab
