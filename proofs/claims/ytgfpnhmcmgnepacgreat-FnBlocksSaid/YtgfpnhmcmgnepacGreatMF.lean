/- Lemmas, plain functions of the program, and what they answer. No condition. -/
import Derived.Test.YtgfpnhmcmgnepacGreatME
namespace Go.Proofs.YtgfpnhmcmgnepacGreat
set_option linter.unusedVariables false
set_option linter.unusedSimpArgs false
open Go Go.VL
theorem Z4 (s:ca)(v:lB s)(a1:∀(n:Nat) j,s.c7[n]? = some j→u9 j.iG=some true)(bh:∀(i k:Nat) x y,s.c7[i]? = some x→s.c7[k]? = some y→i≠k→(x.iG.toList == y.iG.toList)=false):pJ s=some true:=by
 obtain ⟨f1,f2,f3,f4⟩:=v
 have LC:CU s.c7 (len_ dJ s.c7) s.b2 0=some (.inl ()):=by
  unfold CU
  rw [h6]
  obtain ⟨_,e,-⟩:=jz (f:=fun w:Int=>w2 s.c7 (s.c7.length:Nat) s.b2 w) (fun (i:Nat) (_:Unit)=>(i:Int)) s.c7.length (fun _ _=>True) (fun _=>(Sum.inl ():Unit⊕Unit))
   (fun i ag _ _=>by
     refine ⟨(),?_,trivial⟩
     have aa:=List.getElem?_eq_getElem ag
     obtain ⟨hQ,ko,rT,adq⟩:=f1 i _ aa
     have aA:zV s.c7[i]=some true:=by
      unfold zV
      have p : ∀n:Int,-50≤n→n≤50→xH n=some true:=fun n o R=>by
       unfold xH
       exact eh o (by rw [decide_eq_true R])
      exact aB (a1 i _ aa) (eX rfl (aB (p _ hQ ko) (eX rfl (aB (p _ rT adq) rfl))))
     have aX:zN ⟨s.c7,s.b2⟩ s.c7[i].iG=some (i:Int):=by
      unfold zN CE Ge
      obtain ⟨r,e,rfl⟩:=sP (f:=fun w:Int=>zp s.c7 s.c7[i].iG (s.c7.length:Nat) w) (fun (k:Nat) (_:Unit)=>(k:Int)) s.c7.length (fun k _=>k≤i) (fun r=>r=(Sum.inr (i:Int):Unit⊕Int))
       (fun k aX _ afr=>by
         have aK:=List.getElem?_eq_getElem aX
         unfold zp C4
         by_cases c:k=i
         ·subst c
          exact .inr ⟨_,eh (by omega) (bK (by omega) (aB (gt rfl aK) (aB rfl (eX (by simp) rfl)))),rfl⟩
         ·exact .inl ⟨(),eh (by omega) (bK (by omega) (aB (gt rfl aK) (aB rfl (hp (bh k i _ _ aK aa c) (by rw [gv (by omega)]))))),by omega⟩)
       (fun _ h=>by omega) () (Nat.zero_le _)
      rw [h6]
      exact aB (x:=(i:Int)) (aB e rfl) rfl
     unfold w2
     exact eh (by omega) (bK (by omega) (aB (gt rfl aa) (aB aA (eX rfl (aB aX (hp (BO rfl) (by rw [gv (by omega)]))))))))
   (fun _ _=>by unfold w2;exact eK (by omega) rfl) () trivial
  exact e
 have qZ : ∀m∈s.b2,qg s.c7 m=true:=fun m hm=>by
  obtain ⟨n,a1⟩:=List.getElem?_of_mem hm
  exact f2 n m a1
 have a6:zq s.b2 s=some false:=by
  unfold zq CA Gb
  rw [h6]
  obtain ⟨x,e,-⟩:=jz (f:=fun w:Int=>wD s.b2 s.c7 s.b2 (s.b2.length:Nat) w) (fun (i:Nat) (_:Unit)=>(i:Int)) s.b2.length (fun _ _=>True) (fun _=>(Sum.inl ():Unit⊕Int))
   (fun i ag _ _=>by
     refine ⟨(),?_,trivial⟩
     have aa:=List.getElem?_eq_getElem ag
     have aJ:=qZ s.b2[i] (List.getElem_mem ag)
     unfold wD C0
     refine eh (by omega) (bK (by omega) (aB (gt rfl aa) (aB (x:=false) (aB (V7 _ _) (by simp [aJ])) (hp rfl (by rw [gv (by omega)]))))))
   (fun _ _=>by unfold wD;exact eK (by omega) rfl) () trivial
  exact aB (x:=(-1:Int)) (aB e rfl) rfl
 unfold pJ
 exact eK (by rw [h6];omega) (eK (by rw [h6];omega) (aB LC (aB a6 rfl)))
def qA:List ByteArray:=[⟨#[97]⟩,⟨#[98]⟩,⟨#[99]⟩,⟨#[100]⟩]
theorem Xp {k:Nat}{x:ByteArray}(h:qA[k]? = some x):u9 x=some true:=by
 have key : ∀u:UInt8,97≤u.toNat→u.toNat≤122→u9 ⟨#[u]⟩=some true:=fun u o R=>by
  unfold u9 Iw
  obtain ⟨_,e,-⟩:=jz (f:=fun w:Int=>xk ⟨#[u]⟩ (((⟨#[u]⟩:ByteArray).size:Nat):Int) w) (fun (i:Nat) (_:Unit)=>(i:Int)) 1 (fun _ _=>True) (fun _=>(Sum.inl ():Unit⊕Unit))
   (fun i ag _ _=>by
     obtain rfl:i=0:=by omega
     refine ⟨(),?_,trivial⟩
     unfold xk
     have bW:(((⟨#[u]⟩:ByteArray).size:Nat):Int)=1:=rfl
     rw [bW]
     refine eh (by omega) (bK (by omega) (aB (x:=true) ?_ (eX rfl rfl)))
     unfold Ds
     have dN:((⟨#[u]⟩:ByteArray).data.toList.getD (((0:Nat):Int)).toNat 0)=u:=rfl
     rw [dN]
     exact eh (by omega) (by rw [decide_eq_true (by omega)]))
   (fun _ _=>by unfold xk;exact eK (by show ¬(1:Int)<1;omega) rfl) () trivial
  refine aB e ?_
  simp only
  have cu:((⟨#[u]⟩:ByteArray).toList == (⟨#[]⟩:ByteArray).toList)=false:=by
   simp [ByteArray.toList,ByteArray.toList.loop,ByteArray.size]
  rw [cu];rfl
 match k,h with
 | 0,h=>obtain rfl:=Option.some.inj h;exact key 97 (by decide) (by decide)
 | 1,h=>obtain rfl:=Option.some.inj h;exact key 98 (by decide) (by decide)
 | 2,h=>obtain rfl:=Option.some.inj h;exact key 99 (by decide) (by decide)
 | 3,h=>obtain rfl:=Option.some.inj h;exact key 100 (by decide) (by decide)
 | k+4,h=>simp [qA] at h
theorem aaz {i k:Nat}{x y:ByteArray}(h:qA[i]? = some x)(cv:qA[k]? = some y)(cu:i≠k):(x.toList == y.toList)=false:=by
 have ag:=fE h
 have aX:=fE cv
 have key : ∀i k:Fin 4,i≠k→((qA[i.1]!).toList == (qA[k.1]!).toList)=false:=by decide +kernel
 have aw:qA[i]! = x:=by simp [h]
 have aC:qA[k]! = y:=by simp [cv]
 have:=key ⟨i,by simpa [qA] using ag⟩ ⟨k,by simpa [qA] using aX⟩ (fun e=>cu (by simpa using congrArg Fin.val e))
 rw [aw,aC] at this
 exact this
structure FA (s:ca):Prop where
 v:lB s
 ok:pJ s=some true
 Ss:3≤s.c7.length
 gB:2≤s.b2.length
 afF:s.c7.map (·.iG)=qA.take s.c7.length
theorem Z5 (s:ca)(aA:∀j∈s.c7,-50≤j.hH∧j.hH≤50∧ -50≤j.mR∧j.mR≤50)(hm:∀m∈s.b2,qg s.c7 m=true)(bq:s.c7.length≤4)(bn:s.b2.length≤8)(a1:s.c7.map (·.iG)=qA.take s.c7.length)(Ss:3≤s.c7.length)(gB:2≤s.b2.length):FA s:=by
 have v:lB s:=⟨fun n j h=>aA j (List.mem_of_getElem? h),fun n m h=>hm m (List.mem_of_getElem? h),by omega,bn⟩
 have name : ∀(n:Nat) j,s.c7[n]? = some j→qA[n]? = some j.iG:=fun n j h=>by
  have aL:=fE h
  have e:(s.c7.map (·.iG))[n]? = some j.iG:=by rw [List.getElem?_map,h];rfl
  rw [a1,List.getElem?_take,if_pos aL] at e
  exact e
 exact ⟨v,Z4 s v (fun n j h=>Xp (name n j h)) (fun i k x y aa aK cu=>aaz (name i x aa) (name k y aK) cu),Ss,gB,a1⟩
def LM (s:ca)(l:List Int):Prop:=l.length=2*s.c7.length∧ ∀x∈l,-8≤x∧x≤4
theorem Wc (s:ca)(v:lB s)(l:List Int)(aL:l.length=2*s.c7.length)(aJ:∀x∈l,-100≤x∧x≤100): ∃r,w4 s l=some r∧(r=true↔oI (2*cP s) (bU s) (mj s) (oo s l)):=by
 obtain ⟨q,aW,bk⟩:=Pd (ZV s v l aJ)
 unfold w4
 rcases bk with ⟨bW,t,a4,g,d9,rfl,-⟩|⟨bW,rfl⟩
 ·exact ⟨true,aB (OI s v l aL aJ) (aB aW rfl),by simp [bW]⟩
 ·exact ⟨false,aB (OI s v l aL aJ) (aB aW rfl),by simp [bW]⟩
theorem Kj (s:ca)(d:FA s)(l:List Int)(aL:l.length=2*s.c7.length)(aJ:∀x∈l,-100≤x∧x≤100):sJ s l=some true∧z2 s l=some true:=by
 have e:EL s.c7.length l=true:=by
  unfold EL
  rw [decide_eq_true aL,Bool.true_and,List.all_eq_true]
  intro x aa
  unfold tW
  exact decide_eq_true (aJ x aa)
 have f:=V9 s d.v.2.2.1 l (by rw [aL,OC];have:=d.v.2.2.1;omega)
 rw [e] at f
 exact ⟨f,aB d.ok (eX rfl (aB f rfl))⟩
theorem abk (s:ca)(d:FA s)(l:List Int)(aL:l.length=2*s.c7.length)(aJ:∀x∈l,-100≤x∧x≤100): ∃r,Dt s l=some r∧w4 s l=some r∧(r=true↔oI (2*cP s) (bU s) (mj s) (oo s l)):=by
 obtain ⟨r,an,cb⟩:=Wc s d.v l aL aJ
 exact ⟨r,aB (Kj s d l aL aJ).2 (eX rfl (aB an rfl)),an,cb⟩
theorem LM.dh {s:ca}{l:List Int}(h:LM s l): ∀x∈l,-100≤x∧x≤100:=fun x aa=>by have:=h.2 x aa;omega
theorem St {α β:Type}{f:α→Option (α⊕β)}{a dl:α}{r:Option β}(h:f a=some (.inl dl))(k:iter f dl=r):iter f a=r:=by rw [iter,h];exact k
theorem Su {α β:Type}{f:α→Option (α⊕β)}{a:α}{b:β}(h:f a=some (.inr b)):iter f a=some b:=by rw [iter,h];rfl
theorem EA (s:ca){k x y r:Int}(a2:oY s k=some (x,y))(aa:-100≤x∧x≤100)(aK:-100≤y∧y≤100)(h0:0≤r)(h:r*r=x*x+y*y):ml s k=some r:=by
 obtain ⟨n,ho,jN,Sd,Se,adr⟩:=Xj x y aa aK
 have e:n=r:=by
  rcases Int.lt_trichotomy n r with c|c|c
  ·have:=aav (j:=n) (k:=r) jN c;omega
  ·exact c
  ·have:=adr r h0 c;omega
 subst e
 have adf:=O5 aa
 have adg:=O5 aK
 unfold ml
 refine aB a2 (aB ho (hp ?_ rfl))
 simp only
 rw [cQ (x:=x*x) (by omega) (by omega),cQ (x:=y*y) (by omega) (by omega),cQ (by omega) (by omega),cQ (by omega) (by omega),h]
 exact BO rfl
def mF (x y z:Int):List aU:=[⟨⟨#[97]⟩,-3,0,true⟩,⟨⟨#[98]⟩,x,y,true⟩,⟨⟨#[99]⟩,0,-4,false⟩,⟨⟨#[100]⟩,z,-9,true⟩]
structure uH (s:ca) (l:List Int) (b:bu):Prop where
 d:FA s
 FQ:LM s l
 afG:s.c7.length=4
 pH:s.b2[0]? = some ⟨0,2,1⟩
 gi:s.b2[1]? = some ⟨2,1,1⟩
 e0:ml s 0=some 5
 aw : ∃k,ml s 1=some k∧4≤k∧k≤10
 p5:b.c0=0
 hQ:b.c1=1
 Sv:1≤b.dX∧b.dX≤b.dW∧b.dW≤4
theorem tX {x y z:Int}{fT:List a5}{p q n d:Int}(BN:(x=3∧y=0)∨(x=0∧y=0)∨(x=8∧y=2))(cd:0≤z∧z<3)(yM:fT=[⟨0,2,1⟩,⟨2,1,1⟩]∨ ∃k,(1≤k∧k≤3)∧fT=[⟨0,2,1⟩,⟨2,1,1⟩,⟨2,3,k⟩])(ah:-4≤p∧p≤4)(a6:-8≤q∧q≤0)(a1:1≤d∧d≤n∧n≤4):
 uH ⟨mF x y z,fT⟩ [0,0,0,0,p,q,0,0] ⟨0,1,n,d⟩:=by
 have afs:0≤x∧x≤8∧0≤y∧y≤2:=by omega
 have g0:(mF x y z)[0]? = some ⟨⟨#[97]⟩,-3,0,true⟩:=rfl
 have g1:(mF x y z)[1]? = some ⟨⟨#[98]⟩,x,y,true⟩:=rfl
 have g2:(mF x y z)[2]? = some ⟨⟨#[99]⟩,0,-4,false⟩:=rfl
 have g3:(mF x y z)[3]? = some ⟨⟨#[100]⟩,z,-9,true⟩:=rfl
 have aL:(mF x y z).length=4:=rfl
 have Sw:qg (mF x y z) ⟨0,2,1⟩=true:=by
  unfold qg
  simp only
  rw [aL,decide_eq_true (by omega),Bool.true_and,show (0:Int).toNat=0 from rfl,show (2:Int).toNat=2 from rfl,g0,g2];simp
 have Sx:qg (mF x y z) ⟨2,1,1⟩=true:=by
  unfold qg
  simp only
  rw [aL,decide_eq_true (by omega),Bool.true_and,show (2:Int).toNat=2 from rfl,show (1:Int).toNat=1 from rfl,g2,g1];simp;omega
 have ads : ∀k:Int,1≤k∧k≤3→qg (mF x y z) ⟨2,3,k⟩=true:=fun k aX=>by
  unfold qg
  simp only
  rw [aL,decide_eq_true (by omega),Bool.true_and,show (2:Int).toNat=2 from rfl,show (3:Int).toNat=3 from rfl,g2,g3];simp
 have hm : ∀m∈fT,qg (mF x y z) m=true:=fun m hm=>by
  rcases yM with rfl|⟨k,aX,rfl⟩
  ·simp at hm
   rcases hm with rfl|rfl
   ·exact Sw
   ·exact Sx
  ·simp at hm
   rcases hm with rfl|rfl|rfl
   ·exact Sw
   ·exact Sx
   ·exact ads k aX
 have i0:fT[0]? = some ⟨0,2,1⟩:=by rcases yM with rfl|⟨k,-,rfl⟩<;>rfl
 have LN:fT[1]? = some ⟨2,1,1⟩:=by rcases yM with rfl|⟨k,-,rfl⟩<;>rfl
 have v0:oY ⟨mF x y z,fT⟩ 0=some (3,-4):=by
  unfold oY
  exact bK (by simp only;have:=fE i0;omega) (aB i0 (bK (by simp only;omega) (aB g2 (bK (by simp only;omega) (aB g0 rfl)))))
 have v1:oY ⟨mF x y z,fT⟩ 1=some (x,y+4):=by
  unfold oY
  refine bK (by simp only;have:=fE LN;omega) (aB LN (bK (by simp only;omega) (aB g1 (bK (by simp only;omega) (aB g2 ?_)))))
  simp only
  rw [cQ (by omega) (by omega),cQ (by omega) (by omega)]
  congr 2<;>omega
 have hlen:2≤fT.length∧fT.length≤3:=by rcases yM with rfl|⟨k,-,rfl⟩<;>simp
 refine ⟨Z5 _ (fun j aA=> ?_) hm (by simp only;omega) (by simp only;omega) rfl (by simp only;omega) hlen.1,⟨rfl,fun v a2=> ?_⟩,rfl,i0,LN,EA _ v0 (by omega) (by omega) (by omega) (by omega),?_,rfl,rfl,a1⟩
 ·simp [mF] at aA
  rcases aA with rfl|rfl|rfl|rfl<;>simp<;>omega
 ·simp at a2
  omega
 ·rcases BN with ⟨rfl,rfl⟩|⟨rfl,rfl⟩|⟨rfl,rfl⟩
  ·exact ⟨5,EA _ v1 (by omega) (by omega) (by omega) (by omega),by omega,by omega⟩
  ·exact ⟨4,EA _ v1 (by omega) (by omega) (by omega) (by omega),by omega,by omega⟩
  ·exact ⟨10,EA _ v1 (by omega) (by omega) (by omega) (by omega),by omega,by omega⟩
theorem Yo (c:List Int)(aP:c.length≤1048576)(i h:Int)(ag:0≤i): ∃fx cv lW fT l b,zQ c i h=some (lW,fT,l,[b],fx,cv)∧uH ⟨lW,fT⟩ l b:=by
 unfold zQ
 obtain ⟨z,oW,o,aw,cd,vQ⟩:=x5 3 (by omega) (by omega) c aP i h ag
 obtain ⟨x,qC,R,aC,aa,vR⟩:=JP [3,0,8] (by simp) (by simp) c aP oW o vQ
 obtain ⟨I,rm,ad,b1,tj⟩:=PT 2 (by omega) (by omega) c aP qC R vR
 have FB:x=3∨x=0∨x=8:=by simpa using aa
 have tail : ∀i h,0≤i→ ∃p oW o q qC R n rm ad t qD aD,lX 9 c i h=some (p,oW,o)∧lX 9 c oW o=some (q,qC,R)∧lX 4 c qC R=some (n,rm,ad)∧r5 3 c rm ad=some (t,qD,aD)∧(-4≤U (p-4)∧U (p-4)≤4)∧(-8≤U (0-q)∧U (0-q)≤0)∧(1≤U (1+n)∧U (1+n)≤4):=fun i h ag=>by
  obtain ⟨p,oW,o,aw,ah,vQ⟩:=x5 9 (by omega) (by omega) c aP i h ag
  obtain ⟨q,qC,R,aC,a6,vR⟩:=x5 9 (by omega) (by omega) c aP oW o vQ
  obtain ⟨n,rm,ad,b1,a1,tj⟩:=x5 4 (by omega) (by omega) c aP qC R vR
  obtain ⟨t,qD,aD,dn,FC⟩:=PT 3 (by omega) (by omega) c aP rm ad tj
  refine ⟨p,oW,o,q,qC,R,n,rm,ad,t,qD,aD,aw,aC,b1,dn,?_,?_,?_⟩
  ·rw [cQ (by omega) (by omega)];omega
  ·rw [cQ (by omega) (by omega)];omega
  ·rw [cQ (by omega) (by omega)];omega
 by_cases g:x=8
 ·subst g
  cases I with
  | true =>
   obtain ⟨k,qD,aD,dn,aX,FC⟩:=JP [1,2,3] (by simp) (by simp) c aP rm ad tj
   have Ca:1≤k∧k≤3:=by simp at aX;omega
   obtain ⟨p,uL,aM,q,Mb,bq,n,Mc,bQ,t,i8,bn,dr,eF,ff,gX,ah,a6,a1⟩:=tail qD aD FC
   cases t with
   | true=>exact ⟨i8,bn,mF 8 2 z,[⟨0,2,1⟩,⟨2,1,1⟩,⟨2,3,k⟩],[0,0,0,0,U (p-4),U (0-q),0,0],⟨0,1,U (1+n),U (1+n)⟩,aB aw (aB aC (bK (by omega) (aB (x:=(⟨⟨#[98]⟩,8,0,true⟩:aU)) rfl (eX (by simp) (aB b1 (eX rfl (aB dn (bK (by simp) (aB dr (aB eF (aB ff (aB gX (eX rfl rfl))))))))))))),tX (.inr (.inr ⟨rfl,rfl⟩)) cd (.inr ⟨k,Ca,rfl⟩) ah a6 (by omega)⟩
   | false=>exact ⟨i8,bn,mF 8 2 z,[⟨0,2,1⟩,⟨2,1,1⟩,⟨2,3,k⟩],[0,0,0,0,U (p-4),U (0-q),0,0],⟨0,1,U (1+n),1⟩,aB aw (aB aC (bK (by omega) (aB (x:=(⟨⟨#[98]⟩,8,0,true⟩:aU)) rfl (eX (by simp) (aB b1 (eX rfl (aB dn (bK (by simp) (aB dr (aB eF (aB ff (aB gX (hp rfl rfl))))))))))))),tX (.inr (.inr ⟨rfl,rfl⟩)) cd (.inr ⟨k,Ca,rfl⟩) ah a6 (by omega)⟩
  | false =>
   obtain ⟨p,uL,aM,q,Mb,bq,n,Mc,bQ,t,i8,bn,dr,eF,ff,gX,ah,a6,a1⟩:=tail rm ad tj
   cases t with
   | true=>exact ⟨i8,bn,mF 8 2 z,[⟨0,2,1⟩,⟨2,1,1⟩],[0,0,0,0,U (p-4),U (0-q),0,0],⟨0,1,U (1+n),U (1+n)⟩,aB aw (aB aC (bK (by omega) (aB (x:=(⟨⟨#[98]⟩,8,0,true⟩:aU)) rfl (eX (by simp) (aB b1 (hp rfl (aB dr (aB eF (aB ff (aB gX (eX rfl rfl))))))))))),tX (.inr (.inr ⟨rfl,rfl⟩)) cd (.inl rfl) ah a6 (by omega)⟩
   | false=>exact ⟨i8,bn,mF 8 2 z,[⟨0,2,1⟩,⟨2,1,1⟩],[0,0,0,0,U (p-4),U (0-q),0,0],⟨0,1,U (1+n),1⟩,aB aw (aB aC (bK (by omega) (aB (x:=(⟨⟨#[98]⟩,8,0,true⟩:aU)) rfl (eX (by simp) (aB b1 (hp rfl (aB dr (aB eF (aB ff (aB gX (hp rfl rfl))))))))))),tX (.inr (.inr ⟨rfl,rfl⟩)) cd (.inl rfl) ah a6 (by omega)⟩
 ·cases I with
  | true =>
   obtain ⟨k,qD,aD,dn,aX,FC⟩:=JP [1,2,3] (by simp) (by simp) c aP rm ad tj
   have Ca:1≤k∧k≤3:=by simp at aX;omega
   obtain ⟨p,uL,aM,q,Mb,bq,n,Mc,bQ,t,i8,bn,dr,eF,ff,gX,ah,a6,a1⟩:=tail qD aD FC
   cases t with
   | true=>exact ⟨i8,bn,mF x 0 z,[⟨0,2,1⟩,⟨2,1,1⟩,⟨2,3,k⟩],[0,0,0,0,U (p-4),U (0-q),0,0],⟨0,1,U (1+n),U (1+n)⟩,aB aw (aB aC (bK (by omega) (aB (x:=(⟨⟨#[98]⟩,x,0,true⟩:aU)) rfl (hp (by simpa using g) (aB b1 (eX rfl (aB dn (bK (by simp) (aB dr (aB eF (aB ff (aB gX (eX rfl rfl))))))))))))),tX (by rcases FB with rfl|rfl|rfl;exact .inl ⟨rfl,rfl⟩;exact .inr (.inl ⟨rfl,rfl⟩);exact absurd rfl g) cd (.inr ⟨k,Ca,rfl⟩) ah a6 (by omega)⟩
   | false=>exact ⟨i8,bn,mF x 0 z,[⟨0,2,1⟩,⟨2,1,1⟩,⟨2,3,k⟩],[0,0,0,0,U (p-4),U (0-q),0,0],⟨0,1,U (1+n),1⟩,aB aw (aB aC (bK (by omega) (aB (x:=(⟨⟨#[98]⟩,x,0,true⟩:aU)) rfl (hp (by simpa using g) (aB b1 (eX rfl (aB dn (bK (by simp) (aB dr (aB eF (aB ff (aB gX (hp rfl rfl))))))))))))),tX (by rcases FB with rfl|rfl|rfl;exact .inl ⟨rfl,rfl⟩;exact .inr (.inl ⟨rfl,rfl⟩);exact absurd rfl g) cd (.inr ⟨k,Ca,rfl⟩) ah a6 (by omega)⟩
  | false =>
   obtain ⟨p,uL,aM,q,Mb,bq,n,Mc,bQ,t,i8,bn,dr,eF,ff,gX,ah,a6,a1⟩:=tail rm ad tj
   cases t with
   | true=>exact ⟨i8,bn,mF x 0 z,[⟨0,2,1⟩,⟨2,1,1⟩],[0,0,0,0,U (p-4),U (0-q),0,0],⟨0,1,U (1+n),U (1+n)⟩,aB aw (aB aC (bK (by omega) (aB (x:=(⟨⟨#[98]⟩,x,0,true⟩:aU)) rfl (hp (by simpa using g) (aB b1 (hp rfl (aB dr (aB eF (aB ff (aB gX (eX rfl rfl))))))))))),tX (by rcases FB with rfl|rfl|rfl;exact .inl ⟨rfl,rfl⟩;exact .inr (.inl ⟨rfl,rfl⟩);exact absurd rfl g) cd (.inl rfl) ah a6 (by omega)⟩
   | false=>exact ⟨i8,bn,mF x 0 z,[⟨0,2,1⟩,⟨2,1,1⟩],[0,0,0,0,U (p-4),U (0-q),0,0],⟨0,1,U (1+n),1⟩,aB aw (aB aC (bK (by omega) (aB (x:=(⟨⟨#[98]⟩,x,0,true⟩:aU)) rfl (hp (by simpa using g) (aB b1 (hp rfl (aB dr (aB eF (aB ff (aB gX (hp rfl rfl))))))))))),tX (by rcases FB with rfl|rfl|rfl;exact .inl ⟨rfl,rfl⟩;exact .inr (.inl ⟨rfl,rfl⟩);exact absurd rfl g) cd (.inl rfl) ah a6 (by omega)⟩
theorem Vp (c:List Int)(aP:c.length≤1048576): ∃lW fT l b,C9 c=some (⟨lW,fT⟩,l,[b])∧uH ⟨lW,fT⟩ l b:=by
 obtain ⟨h0,e0⟩:=Z3 c aP
 obtain ⟨fx,cv,lW,fT,l,b,e,d⟩:=Yo c aP 0 h0 (by omega)
 exact ⟨lW,fT,l,b,aB e0 (aB e rfl),d⟩
theorem PU {fT:List a5}{k:Nat}{x:a5}(aX:fT[k]? = some x)(o:x.h8=1): ∀ {n:Nat} {c:d8},n≤fT.length→c∈lr fT n→c.hx=(k:Int)→c.sf=1
 | 0,c,_,h,_=>by simp [lr] at h
 | n+1,c,a1,h,e=>by
  rw [lr,List.mem_append] at h
  rcases h with h|h
  ·exact PU aX o (by omega) h e
  ·rw [List.getElem?_eq_getElem (by omega)] at h
   simp only [te,List.mem_append] at h
   rcases h with h|h
   ·split at h
    ·simp at h
    ·simp at h;subst h;rfl
   ·split at h
    ·simp at h
    ·rename_i cu
     simp at h;subst h
     simp only at e
     have:n=k:=by omega
     subst this
     rw [List.getElem?_eq_getElem (by omega)] at aX
     exact absurd (by rw [Option.some.inj aX];exact o) cu
theorem Y9 (s:ca){k:Nat}{m:a5}(aX:s.b2[k]? = some m)(o:m.h8=1){c:Nat}(aP:c<bU s)(e:gP s c=k):oX s c=1:=by
 obtain ⟨aw,-,-⟩:=sV s aP
 have:=PU aX o (Nat.le_refl _) (List.mem_of_getElem? (show (lr s.b2 s.b2.length)[c]? = _ from aw)) (by simp only;rw [e])
 exact this
theorem JQ (s:ca){k:Nat}{m:a5}(aX:s.b2[k]? = some m)(o:m.h8=1)(x:Nat→Rat):gg s x (bU s) k=bZ (bU s) fun j=>if gP s j=k then x j else 0:=by
 unfold gg
 refine fi fun j aA=> ?_
 by_cases e:gP s j=k
 ·rw [if_pos e,if_pos e,Y9 s aX o aA e];grind
 ·rw [if_neg e,if_neg e]
theorem WL (s:ca){k:Nat}{m:a5}(aX:s.b2[k]? = some m)(o:m.h8=1){x:Nat→Rat}(aa:∀j,j<bU s→0≤x j):0≤gg s x (bU s) k:=by
 rw [JQ s aX o]
 refine rp fun j aA=> ?_
 by_cases e:gP s j=k
 ·rw [if_pos e];exact aa j aA
 ·rw [if_neg e];exact Rat.le_refl
theorem Qt (s:ca){hT hI:Nat}{p6 p7:a5}(bt:s.b2[hT]? = some p6)(aJ:s.b2[hI]? = some p7)(rZ:p6.h8=1)(r1:p7.h8=1)(cu:hT≠hI)(d n:Int)(x:Nat→Rat):
 bZ (bU s) (fun j=>(hN s (hT:Int) (hI:Int) d n j:Rat)*x j)=((d*hh s hT:Int):Rat)*gg s x (bU s) hT-((n*hh s hI:Int):Rat)*gg s x (bU s) hI:=by
 rw [JQ s bt rZ,JQ s aJ r1,← ic,← ic,← qK]
 refine fi fun j _=> ?_
 unfold hN
 by_cases e:gP s j=hT
 ·rw [if_pos (by omega),if_pos e,if_neg (by omega)];grind
 ·rw [if_neg (by omega),if_neg e]
  by_cases g:gP s j=hI
  ·rw [if_pos (by omega),if_pos g,show (0-n)*hh s (hI:Int) = -(n*hh s (hI:Int)) by rw [Int.zero_sub,Int.neg_mul],Rat.intCast_neg];grind
  ·rw [if_neg (by omega),if_neg g];grind
def yH (s:ca)(b:bu)(hT hI:Nat)(x:Nat→Rat):Prop :=
 ((b.dX*hh s hT:Int):Rat)*gg s x (bU s) hT≤((b.dW*hh s hI:Int):Rat)*gg s x (bU s) hI∧((b.dX*hh s hI:Int):Rat)*gg s x (bU s) hI≤((b.dW*hh s hT:Int):Rat)*gg s x (bU s) hT
theorem D9 (s:ca){x y:Nat→Rat}(h:∀j,j<bU s→x j=y j)(k:Nat):gg s x (bU s) k=gg s y (bU s) k:=fi fun j aA=>by rw [h j aA]
theorem Pk {s:ca}{b:bu}{hT hI:Nat}{p6 p7:a5}(bt:s.b2[hT]? = some p6)(aJ:s.b2[hI]? = some p7)(rZ:p6.h8=1)(r1:p7.h8=1)(cu:hT≠hI)(tG:b.c0=(hT:Int))(rY:b.c1=(hI:Int))(x:Nat→Rat):bZ (eY s [b].length) (fun j=>(h4 s [b] (2*cP s) j:Rat)*x j)=((b.dX*hh s hT:Int):Rat)*gg s x (bU s) hT-((b.dW*hh s hI:Int):Rat)*gg s x (bU s) hI+x (bU s):=by
 have e:bZ (bU s) (fun j=>(h4 s [b] (2*cP s) j:Rat)*x j)=bZ (bU s) (fun j=>(hN s (hT:Int) (hI:Int) b.dX b.dW j:Rat)*x j):=fi fun j aA=>by
  have:=Ph s [b] 0 aA
  rw [Nat.mul_zero,Nat.add_zero] at this
  rw [this,show iE [b] 0=b from rfl,tG,rY]
 have mO:h4 s [b] (2*cP s) (bU s)=1:=by unfold h4;rw [if_neg (by omega),if_neg (by omega),if_pos (by omega)]
 have h3:h4 s [b] (2*cP s) (bU s+1)=0:=by unfold h4;rw [if_neg (by omega),if_neg (by omega),if_neg (by omega)]
 show bZ (bU s+1+1) _=_
 rw [bZ,bZ,e,Qt s bt aJ rZ r1 cu,mO,h3]
 grind
theorem Pl {s:ca}{b:bu}{hT hI:Nat}{p6 p7:a5}(bt:s.b2[hT]? = some p6)(aJ:s.b2[hI]? = some p7)(rZ:p6.h8=1)(r1:p7.h8=1)(cu:hT≠hI)(tG:b.c0=(hT:Int))(rY:b.c1=(hI:Int))(x:Nat→Rat):bZ (eY s [b].length) (fun j=>(h4 s [b] (2*cP s+1) j:Rat)*x j)=((b.dX*hh s hI:Int):Rat)*gg s x (bU s) hI-((b.dW*hh s hT:Int):Rat)*gg s x (bU s) hT+x (bU s+1):=by
 have e:bZ (bU s) (fun j=>(h4 s [b] (2*cP s+1) j:Rat)*x j)=bZ (bU s) (fun j=>(hN s (hI:Int) (hT:Int) b.dX b.dW j:Rat)*x j):=fi fun j aA=>by
  have:=Pj s [b] 0 aA
  rw [Nat.mul_zero,Nat.add_zero] at this
  rw [this,show iE [b] 0=b from rfl,tG,rY]
 have mO:h4 s [b] (2*cP s+1) (bU s)=0:=by unfold h4;rw [if_neg (by omega),if_neg (by omega),if_neg (by omega)]
 have h3:h4 s [b] (2*cP s+1) (bU s+1)=1:=by unfold h4;rw [if_neg (by omega),if_neg (by omega),if_pos (by omega)]
 show bZ (bU s+1+1) _=_
 rw [bZ,bZ,e,Qt s aJ bt r1 rZ (Ne.symm cu),mO,h3]
 grind
theorem PV {s:ca}{b:bu}{i:Nat}(ag:i<2*cP s)(x:Nat→Rat):bZ (eY s [b].length) (fun j=>(h4 s [b] i j:Rat)*x j)=bZ (bU s) (fun j=>(mj s i j:Rat)*x j):=by
 have e:bZ (bU s) (fun j=>(h4 s [b] i j:Rat)*x j)=bZ (bU s) (fun j=>(mj s i j:Rat)*x j):=fi fun j aA=>by
  unfold h4 nL;rw [if_pos ag,if_pos ⟨ag,aA⟩]
 have mO : ∀q,h4 s [b] i (bU s+q)=0:=fun q=>by unfold h4 nL;rw [if_pos ag,if_neg (by omega)]
 show bZ (bU s+1+1) _=_
 rw [bZ,bZ,e,mO 1,show h4 s [b] i (bU s)=0 from mO 0]
 grind
theorem Za {s:ca}{l:List Int}{b:bu}{hT hI:Nat}{p6 p7:a5}(bt:s.b2[hT]? = some p6)(aJ:s.b2[hI]? = some p7)(rZ:p6.h8=1)(r1:p7.h8=1)(cu:hT≠hI)(tG:b.c0=(hT:Int))(rY:b.c1=(hI:Int)){x:Nat→Rat}(h:oc (hS s [b].length) (eY s [b].length) (h4 s [b]) (iw s l) x):oc (2*cP s) (bU s) (mj s) (oo s l) x∧yH s b hT hI x:=by
 obtain ⟨o,R⟩:=h
 have fC:eY s [b].length=bU s+2:=rfl
 have dq:hS s [b].length=2*cP s+2:=rfl
 have g0 : ∀j,iw s l (2*cP s+j)=0:=fun j=>by unfold iw;rw [if_neg (by omega)]
 refine ⟨⟨fun j aA=>o j (by omega),fun i ag=> ?_⟩,?_,?_⟩
 ·have:=R i (by omega)
  rw [PV ag] at this
  rw [this];unfold iw;rw [if_pos ag]
 ·have e:=R (2*cP s) (by omega)
  rw [Pk bt aJ rZ r1 cu tG rY,show iw s l (2*cP s)=0 from g0 0] at e
  have:=o (bU s) (by omega)
  grind
 ·have e:=R (2*cP s+1) (by omega)
  rw [Pl bt aJ rZ r1 cu tG rY,g0 1] at e
  have:=o (bU s+1) (by omega)
  grind
theorem Yp {s:ca}{l:List Int}{b:bu}{hT hI:Nat}{p6 p7:a5}(bt:s.b2[hT]? = some p6)(aJ:s.b2[hI]? = some p7)(rZ:p6.h8=1)(r1:p7.h8=1)(cu:hT≠hI)(tG:b.c0=(hT:Int))(rY:b.c1=(hI:Int)){x:Nat→Rat}(h:oc (2*cP s) (bU s) (mj s) (oo s l) x)(ap:yH s b hT hI x):oI (hS s [b].length) (eY s [b].length) (h4 s [b]) (iw s l):=by
 obtain ⟨o,R⟩:=h
 obtain ⟨an,cb⟩:=ap
 have fC:eY s [b].length=bU s+2:=rfl
 have dq:hS s [b].length=2*cP s+2:=rfl
 obtain ⟨y,aK⟩ : ∃y:Nat→Rat,y=fun j=>if j<bU s then x j else if j=bU s then ((b.dW*hh s hI:Int):Rat)*gg s x (bU s) hI-((b.dX*hh s hT:Int):Rat)*gg s x (bU s) hT else ((b.dW*hh s hT:Int):Rat)*gg s x (bU s) hT-((b.dX*hh s hI:Int):Rat)*gg s x (bU s) hI:=⟨_,rfl⟩
 have tF : ∀j,j<bU s→y j=x j:=fun j aA=>by rw [aK];exact if_pos aA
 have fh:y (bU s)=((b.dW*hh s hI:Int):Rat)*gg s x (bU s) hI-((b.dX*hh s hT:Int):Rat)*gg s x (bU s) hT:=by rw [aK];simp
 have d6:y (bU s+1)=((b.dW*hh s hT:Int):Rat)*gg s x (bU s) hT-((b.dX*hh s hI:Int):Rat)*gg s x (bU s) hI:=by rw [aK];simp only;rw [if_neg (by omega),if_neg (by omega)]
 have g0 : ∀j,iw s l (2*cP s+j)=0:=fun j=>by unfold iw;rw [if_neg (by omega)]
 refine ⟨y,fun j aA=> ?_,fun i ag=> ?_⟩
 ·by_cases c:j<bU s
  ·rw [tF j c];exact o j c
  ·have:j=bU s∨j=bU s+1:=by omega
   rcases this with rfl|rfl
   ·rw [fh];grind
   ·rw [d6];grind
 ·by_cases c:i<2*cP s
  ·rw [PV c,fi (g:=fun j=>(mj s i j:Rat)*x j) fun j aA=>by rw [tF j aA],R i c]
   unfold iw;rw [if_pos c]
  ·have:i=2*cP s∨i=2*cP s+1:=by omega
   rcases this with rfl|rfl
   ·rw [Pk bt aJ rZ r1 cu tG rY,D9 s tF,D9 s tF,fh,show iw s l (2*cP s)=0 from g0 0];grind
   ·rw [Pl bt aJ rZ r1 cu tG rY,D9 s tF,D9 s tF,d6,g0 1];grind
theorem A5 {x y:Rat}(aa:fS x)(aK:fS y)(h:fS (x*y)):qN (di x) (di y)=some (di (x*y)):=aB (PP aa aK) (aB (Kg h) rfl)
structure qp (K:Nat) (z:Nat→Rat) (w:Rat):Prop where
 pos:0<w
 nK:dw K w
 FR : ∀k,dw K (z k*w)
 acW:1000*K≤21*100*(eo*eo)
theorem qp.fit {K:Nat}{z:Nat→Rat}{w x:Rat}(h:qp K z w){a:Nat}(bt:a≤1000)(aa:dw (a*K) (x*w)):fS x:=by
 have ah:=h.pos
 have o:=h.acW
 have R:a*K≤1000*K:=Nat.mul_le_mul_right _ bt
 exact A3 (K:=21*100*(eo*eo)) (h.nK.mono (by omega)) (aa.mono (by omega)) (by grind) (by grind) (vA (Nat.le_refl _))
theorem qp.yI {K:Nat}{z:Nat→Rat}{w:Rat}(h:qp K z w)(k:Nat):fS (z k):=h.fit (a:=1) (by omega) (by rw [Nat.one_mul];exact h.FR k)
theorem dw.int {z:Int}{K:Nat}(h:z.natAbs≤K):dw K (z:Rat):=⟨z,rfl,h⟩
theorem qp.KK {K:Nat}{z:Nat→Rat}{w:Rat}(h:qp K z w)(k:Nat){e:Int}(he:-100≤e∧e≤100):fS (z k*(e:Rat)):=h.fit (a:=100) (by omega) (by
 have:z k*(e:Rat)*w=(e:Rat)*(z k*w):=by grind
 rw [this];exact (dw.int (by omega)).mul (h.FR k))
theorem qp.fits {K:Nat}{z:Nat→Rat}{w:Rat}(h:qp K z w){n:Nat}(a1:n≤8){e:Nat→Int}(he:∀k,-100≤e k∧e k≤100){f:Int}(b9:-100≤f∧f≤100):fS (bZ n (fun k=>z k*(e k:Rat))+(f:Rat)):=h.fit (a:=n*100+100) (by omega) (by
 have aw:(bZ n (fun k=>z k*(e k:Rat))+(f:Rat))*w=bZ n (fun k=>(e k:Rat)*(z k*w))+(f:Rat)*w:=by
  rw [Rat.add_mul,← vc]
  congr 1
  exact fi fun k _=>by grind
 rw [aw,Nat.add_mul]
 refine dw.add ?_ ((dw.int (by omega)).mul h.nK)
 rw [Nat.mul_assoc]
 exact dw.sum fun k _=>(dw.int (by have:=he k;omega)).mul (h.FR k))
theorem Zb (s:ca)(v:lB s){K:Nat}{z:Nat→Rat}{w:Rat}(h:qp K z w)(j:Nat):
 zG s (bf s.b2.length fun k=>di (z k)) (j:Int)=some (di (bZ s.b2.length fun k=>z k*(hK s (j:Int) 0 k:Rat)),di (bZ s.b2.length fun k=>z k*(hK s (j:Int) 1 k:Rat))):=by
 obtain ⟨-,v2,-,bn⟩:=id v
 have f0 : ∀n,n≤8→ ∀fX,fS (bZ n fun k=>z k*(hK s (j:Int) fX k:Rat)):=fun n a1 fX=>by
  have:=h.fits a1 (fun k=>yr s v (j:Int) fX k) (f:=0) (by omega)
  rw [show ((0:Int):Rat)=0 from rfl,Rat.add_zero] at this
  exact this
 unfold zG
 refine aB (sa (n:=0) (by rw [mq];omega)) (aB (x:=(di (bZ s.b2.length fun k=>z k*(hK s (j:Int) 0 k:Rat)),di (bZ s.b2.length fun k=>z k*(hK s (j:Int) 1 k:Rat)))) ?_ rfl)
 unfold G7
 rw [h6]
 obtain ⟨_,e,-⟩:=jz (f:=fun w:(Option bB)×(Option bB)×Int=>wZ s.c7 s.b2 (bf s.b2.length fun k=>di (z k)) (j:Int) (s.b2.length:Nat) w.1 w.2.1 w.2.2)
  (fun (n:Nat) (_:Unit)=>(di (bZ n fun k=>z k*(hK s (j:Int) 0 k:Rat)),di (bZ n fun k=>z k*(hK s (j:Int) 1 k:Rat)),(n:Int))) s.b2.length (fun _ _=>True) (fun _=>(di (bZ s.b2.length fun k=>z k*(hK s (j:Int) 0 k:Rat)),di (bZ s.b2.length fun k=>z k*(hK s (j:Int) 1 k:Rat))))
  (fun n a1 _ _=>by
    refine ⟨(),?_,trivial⟩
    have aa:=List.getElem?_eq_getElem a1
    obtain ⟨bE,cU,nI⟩:=JF s v n a1
    have yJ : ∀fX,hK s (j:Int) fX n=if (j:Int)=s.b2[n].c0 then (if fX=0 then (lp s n).1 else (lp s n).2) else if (j:Int)=s.b2[n].c1 then -(if fX=0 then (lp s n).1 else (lp s n).2) else 0:=fun fX=>by unfold hK;rw [aa]
    have p5:=yr s v (j:Int) 0 n
    have hQ:=yr s v (j:Int) 1 n
    have add : ∀(fX:Nat) (t:Int),t=hK s (j:Int) fX n→mn t=some (di (t:Rat))∧qN (di (z n)) (di (t:Rat))=some (di (z n*(t:Rat)))∧o4 (di (bZ n fun k=>z k*(hK s (j:Int) fX k:Rat))) (di (z n*(t:Rat)))=some (di (bZ (n+1) fun k=>z k*(hK s (j:Int) fX k:Rat))):=fun fX t cp=>by
     have adt : -100≤t∧t≤100:=by rw [cp];exact yr s v (j:Int) fX n
     have Ra:mZ t:=mq.2 (by omega)
     have wB:=h.KK n adt
     refine ⟨sa Ra,A5 (h.yI n) (tS Ra) wB,?_⟩
     have jL:=f0 (n+1) (by omega) fX
     rw [bZ,← cp] at jL ⊢
     exact Ki (f0 n (by omega) fX) wB jL
    have skip : ∀fX,hK s (j:Int) fX n=0→bZ (n+1) (fun k=>z k*(hK s (j:Int) fX k:Rat))=bZ n (fun k=>z k*(hK s (j:Int) fX k:Rat)):=fun fX h0=>by
     rw [bZ,h0,show ((0:Int):Rat)=0 from rfl];grind
    simp only
    unfold wZ
    rw [gv (by omega)]
    refine eh (by omega) (bK (by omega) (aB (gt rfl aa) (aB (show oY ⟨s.c7,s.b2⟩ (n:Int)=_ from bE) ?_)))
    by_cases a:(j:Int)=s.b2[n].c0
    ·obtain ⟨hf,iI,oT⟩:=add 0 (lp s n).1 (by rw [yJ,if_pos a];rfl)
     obtain ⟨aW,bk,cc⟩:=add 1 (lp s n).2 (by rw [yJ,if_pos a];rfl)
     exact eX (y5 a) (bK (by rw [dp];omega) (aB (x:=di (z n)) (by rw [Int.toNat_natCast];exact hq a1) (aB hf (aB iI (aB oT (aB aW (aB bk (aB cc rfl))))))))
    ·refine hp (ux a) ?_
     by_cases b:(j:Int)=s.b2[n].c1
     ·obtain ⟨hf,iI,oT⟩:=add 0 (U (0-(lp s n).1)) (by rw [yJ,if_neg a,if_pos b,cQ (by omega) (by omega)];simp)
      obtain ⟨aW,bk,cc⟩:=add 1 (U (0-(lp s n).2)) (by rw [yJ,if_neg a,if_pos b,cQ (by omega) (by omega)];simp)
      exact eX (y5 b) (bK (by rw [dp];omega) (aB (x:=di (z n)) (by rw [Int.toNat_natCast];exact hq a1) (aB hf (aB iI (aB oT (aB aW (aB bk (aB cc rfl))))))))
     ·refine hp (ux b) ?_
      rw [skip 0 (by rw [yJ,if_neg a,if_neg b]),skip 1 (by rw [yJ,if_neg a,if_neg b])])
  (fun _ _=>by simp only;unfold wZ;exact eK (by omega) rfl) () trivial
 exact e
theorem Yq {n:Nat}(a1:n≤40){y:Nat→Rat}(aK:∀k,k<n→fS (y k)):Ae (bf n fun k=>np (y k))=some (bf n (fun k=>di (y k)),true):=by
 have aL:len_ g7 (bf n fun k=>np (y k))=((n:Nat):Int):=by rw [h6,dp]
 unfold Ae
 rw [aL]
 refine bK (by omega) (aB (x:= .inl (bf n fun k=>di (y k))) ?_ rfl)
 unfold IG
 obtain ⟨_,e,-⟩:=jz (f:=fun w:Int×(List (Option bB))=>xp (bf n fun k=>np (y k)) ((n:Nat):Int) w.1 w.2) (fun (k:Nat) (_:Unit)=>((k:Int),bf n fun j=>if j<k then di (y j) else none)) n (fun _ _=>True) (fun _=>(.inl (bf n fun k=>di (y k)):(List (Option bB))⊕Unit))
  (fun k aX _ _=>by
    refine ⟨(),?_,trivial⟩
    unfold xp
    simp only
    have aw:(bf n fun j=>if j<k then di (y j) else none).set (0+((k:Nat):Int).toNat) (di (y k))=bf n fun j=>if j<k+1 then di (y j) else none:=by
     rw [Int.toNat_natCast,Nat.zero_add,ll]
     refine fr fun j _=> ?_
     by_cases bE:j=k
     ·subst bE;rw [if_pos rfl,if_pos (by omega)]
     ·rw [if_neg bE]
      by_cases cU:j<k
      ·rw [if_pos cU,if_pos (by omega)]
      ·rw [if_neg cU,if_neg (by omega)]
    refine eh (by omega) (bK (by rw [dp];omega) (aB (x:=np (y k)) (by rw [Int.toNat_natCast];exact hq aX) (aB (Z0 (aK k aX)) (bK (by rw [dp];omega) (bK (by rw [dp,Int.toNat_natCast];omega) ?_)))))
    rw [aw,gv (by omega)]
    refine aB (x:=di (y k)) (by rw [Int.toNat_natCast,Nat.zero_add,hq aX,if_pos (by omega)]) ?_
    rfl)
  (fun _ _=>by
    unfold xp
    refine eK (by simp) ?_
    simp only
    congr 3
    exact fr fun j aA=>by rw [if_pos aA]) () trivial
 have e0:(bf n fun j=>if j<0 then di (y j) else none)=List.replicate (((n:Nat):Int).toNat) none:=by
  rw [Int.toNat_natCast,o7];exact fr fun j _=>by rw [if_neg (by omega)]
 rw [← e0];exact e
theorem IV (s:ca)(ok:pJ s=some true)(bn:s.b2.length≤8){y:Nat→Rat}(aK:∀k,fS (y k)):u2 s (bf s.b2.length fun k=>np (y k))=some (bf s.b2.length (fun k=>di (y k)),true):=by
 unfold u2
 exact hp (by rw [h6,h6,dp];exact BO rfl) (aB ok (eX rfl (aB (Yq (by omega) fun k _=>aK k) rfl)))
theorem Z6 (s:ca)(x:Nat→Rat)(i:Nat):bZ (bU s) (fun c=>(mj s i c:Rat)*x c)=bZ s.b2.length (fun k=>gg s x (bU s) k*(mE s i k:Rat)):=by
 have e : ∀k,gg s x (bU s) k*(mE s i k:Rat)=bZ (bU s) fun c=>if gP s c=k then (oX s c:Rat)*x c*(mE s i k:Rat) else 0:=fun k=>by
  unfold gg
  rw [← vc]
  exact fi fun c _=>by split<;>grind
 rw [fi (n:=s.b2.length) fun k _=>e k,pL]
 refine fi fun c aP=> ?_
 obtain ⟨-,R,-⟩:=sV s aP
 rw [kq R fun k _ cu=>if_neg (fun e=>cu e.symm),if_pos rfl]
 unfold mj
 rw [Rat.intCast_mul];grind
def LO (s:ca)(l:List Int)(z:Nat→Rat):Prop:= ∀i,i<2*cP s→bZ s.b2.length (fun k=>z k*(mE s i k:Rat))=(oo s l i:Rat)
theorem Zc {s:ca}{l:List Int}{x:Nat→Rat}(h:oc (2*cP s) (bU s) (mj s) (oo s l) x):LO s l (gg s x (bU s)):=fun i ag=>by rw [← Z6];exact h.2 i ag
theorem Wd (s:ca)(ok:pJ s=some true)(v:lB s){l:List Int}(aL:l.length=2*s.c7.length)(aJ:∀x∈l,-100≤x∧x≤100)(Cy:sJ s l=some true){K:Nat}{z:Nat→Rat}{w:Rat}(h:qp K z w)(cd:LO s l z):
 zO s l (bf s.b2.length fun k=>np (z k))=some true:=by
 obtain ⟨-,-,bq,bn⟩:=id v
 have tB:=uf s
 unfold zO
 refine aB (IV s ok bn h.yI) (eX rfl (aB Cy (eX rfl (aB (IL s (by omega)) ?_))))
 rw [JG,gR,dp]
 refine aB (x:= .inl ()) ?_ rfl
 unfold H0
 obtain ⟨_,e,-⟩:=jz (f:=fun w:Int=>w3 l (bf s.b2.length fun k=>di (z k)) (bf (cP s) fun q=>((h1 s q:Nat):Int)) (cP s:Nat) s.c7 s.b2 w) (fun (n:Nat) (_:Unit)=>(n:Int)) (cP s) (fun _ _=>True) (fun _=>(.inl ():Unit⊕Unit))
  (fun n a1 _ _=>by
    refine ⟨(),?_,trivial⟩
    have b9:=Qo s a1
    have jy:U ((2:Int)*(h1 s n:Int))=((2*h1 s n:Nat):Int):=by rw [cQ (by omega) (by omega)];omega
    have p3:U (((2*h1 s n:Nat):Int)+1)=((2*h1 s n+1:Nat):Int):=gv (by omega)
    have zero : ∀(fX:Nat),fX<2→ ∃y,l[2*h1 s n+fX]? = some y∧mn y=some (di (y:Rat))∧o4 (di (bZ s.b2.length fun k=>z k*(hK s (h1 s n:Int) fX k:Rat))) (di (y:Rat))=some (di 0):=fun fX bt=>by
     have aK:=List.getElem?_eq_getElem (show 2*h1 s n+fX<l.length by omega)
     have aft:=aJ _ (List.mem_of_getElem? aK)
     have i64:mZ l[2*h1 s n+fX]:=mq.2 (by omega)
     refine ⟨_,aK,sa i64,?_⟩
     have e0:bZ s.b2.length (fun k=>z k*(hK s (h1 s n:Int) fX k:Rat))+((l[2*h1 s n+fX]:Int):Rat)=0:=by
      have:=cd (2*n+fX) (by omega)
      unfold mE oo at this
      rw [show (2*n+fX) / 2=n by omega,show (2*n+fX) % 2=fX by omega,List.getD_eq_getElem?_getD,aK] at this
      rw [this]
      simp only [Option.getD_some]
      rw [Rat.intCast_neg];grind
     have f1:fS (bZ s.b2.length fun k=>z k*(hK s (h1 s n:Int) fX k:Rat)):=by
      have:=h.fits bn (fun k=>yr s v (h1 s n:Int) fX k) (f:=0) (by omega)
      rw [show ((0:Int):Rat)=0 from rfl,Rat.add_zero] at this
      exact this
     rw [← e0]
     exact Ki f1 (tS i64) (by rw [e0];exact Yl)
    obtain ⟨tF,hf,iI,oT⟩:=zero 0 (by omega)
    obtain ⟨fh,aW,bk,cc⟩:=zero 1 (by omega)
    have nm:z6 (di 0)=some true:=aB (AO 0) rfl
    unfold w3
    refine eh (by omega) (bK (by rw [dp];omega) (aB (gt rfl (hq a1)) (aB (Zb s v h (h1 s n)) ?_)))
    rw [jy,p3]
    refine bK (by omega) (aB (gt rfl hf) (aB iI (aB oT (aB nm (eX rfl (bK (by omega) (aB (gt rfl aW) (aB bk (aB cc (aB nm (eX rfl ?_)))))))))))
    rw [gv (by omega)])
  (fun _ _=>by unfold w3;exact eK (by omega) rfl) () trivial
 exact e
def FD (s:ca)(z:Nat→Rat):Prop:= ∀k m,s.b2[k]? = some m→(m.h8=1→0≤z k)∧(m.h8=2→z k≤0)
theorem J7 {x:Rat}(h:0≤x): ¬nf (gz x).1<0:=by
 have:0≤(gz x).1:=Rat.num_nonneg.2 h
 unfold nf
 split<;>(try split)<;>omega
theorem Qu {x:Rat}(h:x≤0): ¬0<nf (gz x).1:=by
 have o:0≤(-x).num:=Rat.num_nonneg.2 (by grind)
 have:(gz x).1≤0:=by show x.num≤0;rw [Rat.neg_num] at o;omega
 unfold nf
 split<;>(try split)<;>omega
theorem Yr (s:ca)(ok:pJ s=some true)(v:lB s){z:Nat→Rat}(b9:∀k,fS (z k))(cd:FD s z):zT s (bf s.b2.length fun k=>np (z k))=some true:=by
 have bn:=v.2.2.2
 unfold zT
 refine aB (IV s ok bn b9) (eX rfl (aB (x:= .inl ()) ?_ rfl))
 unfold Il
 rw [h6]
 obtain ⟨_,e,-⟩:=jz (f:=fun w:Int=>w7 (bf s.b2.length fun k=>di (z k)) s.b2 (s.b2.length:Nat) w) (fun (n:Nat) (_:Unit)=>(n:Int)) s.b2.length (fun _ _=>True) (fun _=>(.inl ():Unit⊕Unit))
  (fun n a1 _ _=>by
    refine ⟨(),?_,trivial⟩
    have aa:=List.getElem?_eq_getElem a1
    obtain ⟨g1,g2⟩:=cd n _ aa
    unfold w7
    rw [gv (by omega)]
    refine eh (by omega) (bK (by omega) (aB (gt rfl aa) (bK (by rw [dp];omega) (aB (x:=di (z n)) (by rw [Int.toNat_natCast];exact hq a1) (aB (AO (z n)) ?_)))))
    by_cases a:s.b2[n].h8=1
    ·exact eX (y5 a) (eK (J7 (g1 a)) (hp (ux (by omega)) rfl))
    ·refine hp (ux a) ?_
     by_cases b:s.b2[n].h8=2
     ·exact eX (y5 b) (eK (Qu (g2 b)) rfl)
     ·exact hp (ux b) rfl)
  (fun _ _=>by unfold w7;exact eK (by omega) rfl) () trivial
 exact e
theorem Pm {fT:List a5}{k:Nat}{x:a5}(aX:fT[k]? = some x)(o:x.h8=2): ∀ {n:Nat} {c:d8},n≤fT.length→c∈lr fT n→c.hx=(k:Int)→c.sf = -1
 | 0,c,_,h,_=>by simp [lr] at h
 | n+1,c,a1,h,e=>by
  rw [lr,List.mem_append] at h
  rcases h with h|h
  ·exact Pm aX o (by omega) h e
  ·rw [List.getElem?_eq_getElem (by omega)] at h
   simp only [te,List.mem_append] at h
   rcases h with h|h
   ·split at h
    ·simp at h
    ·rename_i cu
     simp at h;subst h
     simp only at e
     have:n=k:=by omega
     subst this
     rw [List.getElem?_eq_getElem (by omega)] at aX
     exact absurd (by rw [Option.some.inj aX];exact o) cu
   ·split at h
    ·simp at h
    ·simp at h;subst h;rfl
theorem Zd (s:ca){x:Nat→Rat}(aa:∀j,j<bU s→0≤x j):FD s (gg s x (bU s)):=fun k m hm=>by
 refine ⟨fun h=>WL s hm h aa,fun h=> ?_⟩
 have:0≤ -gg s x (bU s) k:=by
  unfold gg
  rw [show -bZ (bU s) (fun j=>if gP s j=k then (oX s j:Rat)*x j else 0)=bZ (bU s) (fun j=>(-1:Rat)*(if gP s j=k then (oX s j:Rat)*x j else 0)) by rw [ic];grind]
  refine rp fun j aA=> ?_
  have p:=aa j aA
  by_cases e:gP s j=k
  ·obtain ⟨aw,-,-⟩:=sV s aA
   have:=Pm hm h (Nat.le_refl _) (List.mem_of_getElem? (show (lr s.b2 s.b2.length)[j]? = _ from aw)) (by simp only;rw [e])
   simp only at this
   rw [if_pos e,this,Rat.intCast_neg];grind
  ·rw [if_neg e];grind
 grind
theorem Ze (s:ca)(ok:pJ s=some true)(v:lB s){l:List Int}(aL:l.length=2*s.c7.length)(aJ:∀x∈l,-100≤x∧x≤100)(Cy:sJ s l=some true){K:Nat}{z:Nat→Rat}{w:Rat}(h:qp K z w)(cd:LO s l z)(bW:FD s z):
 C1 s l (bf s.b2.length fun k=>np (z k))=some true:=aB (Wd s ok v aL aJ Cy h cd) (eX rfl (aB (Yr s ok v h.yI bW) rfl))
theorem abl:1000*(16*eo)≤21*100*(eo*eo):=by decide +kernel
theorem Ys {s:ca}(v:lB s){m n:Nat}{a:Nat→Nat→Int}{b:Nat→Int}{c x:Nat→Rat}{w:Rat}(q:KJ m n a b c x w)(hm:m≤20):qp (16*eo) (gg s x (bU s)) w:=by
 have bn:=v.2.2.2
 have mH:=si s
 have hF:=Qp hm
 exact ⟨q.pos,q.nK.mono (by omega),fun k=>(QO q.Sq k (Nat.le_refl _)).mono (Nat.mul_le_mul (by omega) hF),abl⟩
structure uq (b:bu):Prop where
 zn:b.c0=0
 zo:b.c1=1
 adu:1≤b.dX∧b.dX≤b.dW∧b.dW≤10
theorem x6 {s:ca}{l:List Int}{p5:bu}(D:uH s l p5){b:bu}(h:uq b):sL s b=some true∧xD s [b]=some true∧E0 s b:=by
 obtain ⟨k,aw,Cs,FE⟩:=D.aw
 have e0:=D.e0
 obtain ⟨qE,pF,Ci⟩:=h.adu
 have Cd:=fE D.pH
 have mG:=fE D.gi
 have R9 : ∀(i:Nat) (a c:Int),s.b2[i]? = some ⟨a,c,1⟩→w6 s (i:Int)=some true:=fun i a c ag=>by
  have:=fE ag
  unfold w6
  exact eh (by omega) (eh (by rw [h6];omega) (bK (by omega) (aB (gt rfl ag) rfl)))
 have ah:k*b.dW≤10*10:=Int.mul_le_mul FE Ci (by omega) (by omega)
 have zd:0≤k*b.dW:=Int.mul_nonneg (by omega) (by omega)
 have a6:k*b.dX≤10*10:=Int.mul_le_mul FE (by omega) (by omega) (by omega)
 have n3:0≤k*b.dX:=Int.mul_nonneg (by omega) (by omega)
 have ok:sL s b=some true:=by
  unfold sL
  rw [h.zn,h.zo]
  refine aB D.d.ok (eX rfl (hp rfl (aB (R9 0 _ _ D.pH) (eX rfl (aB (R9 1 _ _ D.gi) (eX rfl (eK (by omega) (eK (by omega) (eK (by omega) (bK (by omega) (aB (x:=⟨0,2,1⟩) (gt (show (0:Int)=((0:Nat):Int) from rfl) D.pH) (bK (by omega) (aB (x:=⟨2,1,1⟩) (gt (show (1:Int)=((1:Nat):Int) from rfl) D.gi) ?_)))))))))))))
  refine aB (x:= -1) rfl (eh (by omega) (aB (x:=1) rfl (eK (by omega) (aB e0 (aB aw (eh (by omega) (eh (by omega) ?_)))))))
  rw [cQ (by omega) (by omega),cQ (by omega) (by omega)]
  exact eh (by omega) (by rw [decide_eq_true (by omega)])
 refine ⟨ok,?_,?_⟩
 ·unfold xD
  have hlen:len_ cG [b]=1:=by rw [h6];rfl
  rw [hlen]
  refine eK (by omega) (aB D.d.ok (eX rfl (aB (x:= .inl ()) ?_ rfl)))
  have iv:uT [b] 1 s.c7 s.b2 ((0:Nat):Int)=some (.inl ((1:Nat):Int)):=by
   unfold uT
   exact eh (by omega) (bK (by show 0≤((0:Nat):Int)∧((0:Nat):Int)<((1:Nat):Int);omega) (aB (x:=b) rfl (aB ok (eX rfl rfl))))
  have s1:uT [b] 1 s.c7 s.b2 ((1:Nat):Int)=some (.inr (.inl ())):=by unfold uT;exact eK (by omega) rfl
  exact St (dl:=((1:Nat):Int)) iv (Su s1)
 ·have pH:hh s 0=5:=by unfold hh;rw [e0];rfl
  have gi:hh s 1=k:=by unfold hh;rw [aw];rfl
  have bE:b.dX*k=k*b.dX:=Int.mul_comm _ _
  have cU:b.dW*k=k*b.dW:=Int.mul_comm _ _
  refine ⟨by rw [h.zn,pH,e0],by rw [h.zo,gi,aw],?_,?_,?_,?_,by omega⟩
  ·rw [h.zn,pH];omega
  ·rw [h.zo,gi];omega
  ·rw [h.zn,pH];omega
  ·rw [h.zo,gi];omega
theorem Zf (s:ca)(v:lB s){l:List Int}(aJ:∀x∈l,-100≤x∧x≤100){b:bu}(f8:E0 s b):pC ⟨(hS s [b].length:Int),(eY s [b].length:Int),bf (hS s [b].length*eY s [b].length) (fun x=>h4 s [b] (x / eY s [b].length) (x % eY s [b].length)),bf (hS s [b].length) (iw s l),bf (eY s [b].length) fun _=>0⟩ (hS s [b].length) (eY s [b].length) (h4 s [b]) (iw s l) where
 rows:=rfl
 gw:=rfl
 oi:=dp ..
 EX:=fun i ag j aA=>by
  have o:i*eY s [b].length+j<hS s [b].length*eY s [b].length:=by
   have:(i+1)*eY s [b].length≤hS s [b].length*eY s [b].length:=Nat.mul_le_mul_right _ ag
   rw [Nat.succ_mul] at this;omega
  show (bf _ _)[_]? = _
  rw [hq o]
  have R:(i*eY s [b].length+j) / eY s [b].length=i:=by rw [Nat.mul_comm,Nat.mul_add_div (by omega),Nat.div_eq_of_lt aA];rfl
  have ad:(i*eY s [b].length+j) % eY s [b].length=j:=by rw [Nat.mul_comm,Nat.mul_add_mod,Nat.mod_eq_of_lt aA]
  rw [R,ad]
 zl:=dp ..
 KD:=fun i ag=>hq ag
 hm:=by
  obtain ⟨-,-,f3,f4⟩:=id v
  have:=uf s
  show 2*cP s+2≤20;omega
 a1:=by
  obtain ⟨-,-,f3,f4⟩:=id v
  have:=si s
  show bU s+2≤40;omega
 zk:=fun i ag j aA=>by
  have bE : ∀y q:Int,(0-q)*y = -(q*y):=fun y q=>by rw [Int.zero_sub,Int.neg_mul]
  obtain ⟨-,-,gp,fy,aO,gj,-⟩:=f8
  have vR:i<2*cP s+2:=ag
  unfold h4 nL
  by_cases c:i<2*cP s
  ·rw [if_pos c]
   by_cases d:j<bU s
   ·rw [if_pos ⟨c,d⟩];exact Kh s v i d
   ·rw [if_neg (by omega)];omega
  ·rw [if_neg c]
   by_cases d:j<bU s
   ·rw [if_pos d,show iE [b] ((i-2*cP s) / 2)=b by rw [show (i-2*cP s) / 2=0 by omega];rfl]
    unfold hN
    rw [bE,bE]
    split
    ·split
     ·omega
     ·split<;>omega
    ·split
     ·omega
     ·split<;>omega
   ·rw [if_neg d];split<;>omega
 Cu:=fun i _=>by
  unfold iw oo
  split
  ·rw [List.getD_eq_getElem?_getD]
   cases e:l[2*h1 s (i / 2)+i % 2]? with
   | none=>simp
   | some x=>have:=aJ x (List.mem_of_getElem? e);simp only [Option.getD_some];omega
  ·omega
theorem Ea {s:ca}{l:List Int}{p5:bu}(D:uH s l p5){b:bu}(h:uq b):
 (¬oI (hS s [b].length) (eY s [b].length) (h4 s [b]) (iw s l)∧pI s l [b]=some ([],false)) ∨
   ∃x w,KJ (hS s [b].length) (eY s [b].length) (h4 s [b]) (iw s l) (mT (eY s [b].length) fun _=>0) x w∧pI s l [b]=some (bf s.b2.length (fun k=>np (gg s x (bU s) k)),true):=by
 obtain ⟨b3,a9,fR⟩:=x6 D h
 have v:=D.d.v
 have bn:=v.2.2.2
 have mH:=si s
 have aL:=D.FQ.1
 have aJ:=D.FQ.dh
 have ah:=Zf s v aJ fR
 have ok:=(Kj s D.d l aL aJ).2
 have Sy:=U4 s v l aL aJ [b] (by simp) (fun jT pU=>by rw [List.mem_singleton.1 pU];exact fR)
 unfold pI
 rcases Y3 s v ah (c:=fun _=>0) rfl (fun j _=>by omega) (by show bU s≤bU s+2;omega) with ⟨q,e⟩|⟨q,bk,e⟩|⟨x,w,r,q,e⟩
 ·exact .inl ⟨q,aB ok (eX rfl (aB a9 (eX rfl (aB Sy (aB e (hp rfl rfl))))))⟩
 ·exact (bk VO).elim
 ·exact .inr ⟨x,w,q,aB ok (eX rfl (aB a9 (eX rfl (aB Sy (aB e (eX rfl (aB (Xo (by omega) fun k _=>Qq ah.hm (by omega) q.pos q.nK q.Sq k (Nat.le_refl _)) rfl)))))))⟩
theorem Xq (s:ca)(l:List Int)(b:bu):G1 l [b] (len_ cG [b]) s.c7 s.b2 0 (List.replicate (len_ cG [b]).toNat (⟨0,0,0,0⟩:bu))=some [⟨b.c0,b.c1,1,1⟩]:=by
 have hlen:len_ cG [b]=1:=by rw [h6];rfl
 have e0:List.replicate (Int.toNat 1) (⟨0,0,0,0⟩:bu)=[⟨0,0,0,0⟩]:=rfl
 rw [hlen,e0]
 have iv:uQ l [b] 1 s.c7 s.b2 ((0:Nat):Int) [⟨0,0,0,0⟩]=some (.inl (((1:Nat):Int),[⟨b.c0,b.c1,1,1⟩])):=by
  unfold uQ
  exact eh (by omega) (bK (by show 0≤((0:Nat):Int)∧((0:Nat):Int)<((1:Nat):Int);omega) (aB (x:=b) rfl (bK (by show 0≤((0:Nat):Int)∧((0:Nat):Int)<((1:Nat):Int);omega) (bK (by simp) rfl))))
 have s1:uQ l [b] 1 s.c7 s.b2 ((1:Nat):Int) [⟨b.c0,b.c1,1,1⟩]=some (.inr [⟨b.c0,b.c1,1,1⟩]):=by unfold uQ;exact eK (by omega) rfl
 exact St (dl:=(((1:Nat):Int),[⟨b.c0,b.c1,1,1⟩])) iv (Su s1)
theorem holds_of {s:ca}{l:List Int}{b:bu}{q hs:List gb}{z LW:Bool}(h:pI s l [b]=some (q,z))(cv:pI s l [⟨b.c0,b.c1,1,1⟩]=some (hs,LW)):uW s l [b]=some (z && !LW):=by
 have hlen:len_ cG [b]=1:=by rw [h6];rfl
 unfold uW
 refine aB h ?_
 cases z with
 | false=>exact hp rfl rfl
 | true=>exact eX rfl (bK (by rw [hlen];omega) (aB (Xq s l b) (aB cv rfl)))
theorem Yt {s:ca}{l:List Int}{p5:bu}(D:uH s l p5){b:bu}(h:uq b){x:Nat→Rat}(aa:oc (hS s [b].length) (eY s [b].length) (h4 s [b]) (iw s l) x):
 oc (2*cP s) (bU s) (mj s) (oo s l) x∧yH s b 0 1 x:=Za D.pH D.gi rfl rfl (by omega) h.zn h.zo aa
theorem Xr {s:ca}{l:List Int}{p5:bu}(D:uH s l p5){b:bu}(h:uq b){x:Nat→Rat}(o:oc (2*cP s) (bU s) (mj s) (oo s l) x)(R:yH s b 0 1 x):oI (hS s [b].length) (eY s [b].length) (h4 s [b]) (iw s l):=Yp D.pH D.gi rfl rfl (by omega) h.zn h.zo o R
theorem Zg {x y:Rat}(aa:fS x)(aK:fS y):zM (di x) (di y)=some (di (x-y)):=by
 have p:=aa.dj
 have q:=aK.dj
 have o:=p.ul
 have R:=p.um
 have ad:=q.ul
 have aD:=q.um
 have aM:=p.pos
 have bq:=q.pos
 have f8:=J4
 have Q8:=oC 48
 obtain ⟨bE,-,nI⟩:=D6 p q
 obtain ⟨qE,-,-⟩:=D6 q p
 have gB:=D8 (by omega) (by omega) p.den q.den
 have bW:zM (some (kZ (gz x))) (some (kZ (gz y)))=((qI (some (kZ (gz x))) (L (gz y).2)).bind fun aZ=>(qI (some (kZ (gz y))) (L (gz x).2)).bind fun bH=>(sE aZ bH).bind fun bs=>(pM (L (gz x).2) (L (gz y).2)).bind fun fk=>(qa bs fk).bind fun fF=>some fF):=rfl
 unfold di
 rw [bW,DU (by omega) (by omega) (by omega),Option.bind_some,DU (by omega) (by omega) (by omega),Option.bind_some,OE (by omega) (by omega),Option.bind_some,Ap (kI _) (kI _) (by omega) (by omega),fs (by omega),fs (by omega),Option.bind_some,D7 (x:=x-y) (Int.mul_pos aM bq) ?_ (by omega) (by omega)]
 ·rfl
 ·have:=yf x
  have:=yf y
  simp only [gz,Rat.intCast_mul,Rat.intCast_sub]
  grind
theorem aaA {x y:Rat}(aa:fS x)(aK:fS y)(h:fS (x-y)):D3 (di x) (di y)=some (di (x-y)):=aB (Zg aa aK) (aB (Kg h) rfl)
theorem OK {x y:Rat}{b:bu}(aa:fS x)(aK:fS y)(bh:mZ b.dX)(a1:mZ b.dW)(f1:fS ((b.dX:Rat)*x))(f2:fS ((b.dW:Rat)*y))(f3:fS ((b.dX:Rat)*x-(b.dW:Rat)*y))(h:(b.dX:Rat)*x≤(b.dW:Rat)*y):xv (di x) (di y) b=some true:=by
 unfold xv
 refine aB (sa bh) (aB (A5 (tS bh) aa f1) (aB (sa a1) (aB (A5 (tS a1) aK f2) (aB (aaA f1 f2 f3) ?_))))
 refine aB (AO _) ?_
 have:=Qu (x:=(b.dX:Rat)*x-(b.dW:Rat)*y) (by grind)
 rw [decide_eq_true (by omega)]
theorem Yu {s:ca}{l:List Int}{b:bu}(D:uH s l b){K:Nat}{z:Nat→Rat}{w:Rat}(h:qp K z w)(bW:FD s z){k:Int}(aw:ml s 1=some k)(FE:0≤k∧k≤10)
 (an:(b.dX:Rat)*(z 0*((5:Int):Rat))≤(b.dW:Rat)*(z 1*(k:Rat))) (cb:(b.dX:Rat)*(z 1*(k:Rat))≤(b.dW:Rat)*(z 0*((5:Int):Rat))):zP s b (bf s.b2.length fun k=>np (z k))=some true:=by
 have Cd:=fE D.pH
 have mG:=fE D.gi
 obtain ⟨qE,pF,Ci⟩:=D.Sv
 have v:=D.d.v
 have bn:=v.2.2.2
 have f8:uq b:=⟨D.p5,D.hQ,by omega⟩
 have uL:mZ 5:=mq.2 (by omega)
 have Sz:mZ k:=mq.2 (by omega)
 have SA:mZ b.dX:=mq.2 (by omega)
 have SB:mZ b.dW:=mq.2 (by omega)
 have f5:fS (z 0*((5:Int):Rat)):=h.KK 0 (by omega)
 have Md:fS (z 1*(k:Rat)):=h.KK 1 (by omega)
 have nK : ∀(i:Nat) (a c:Int),(a.natAbs≤4)→(c.natAbs≤10)→dw (40*K) ((a:Rat)*(z i*(c:Rat))*w):=fun i a c bt aP=>by
  have e:(a:Rat)*(z i*(c:Rat))*w=((a:Rat)*(c:Rat))*(z i*w):=by grind
  rw [e]
  exact (((dw.int bt).mul (dw.int aP)).mul (h.FR i)).mono (by omega)
 have wB : ∀(i:Nat) (a c:Int),(a.natAbs≤4)→(c.natAbs≤10)→fS ((a:Rat)*(z i*(c:Rat))):=fun i a c bt aP=>h.fit (a:=40) (by omega) (nK i a c bt aP)
 have jL : ∀(i j:Nat) (a c dl dM:Int),(a.natAbs≤4)→(c.natAbs≤10)→(dl.natAbs≤4)→(dM.natAbs≤10)→fS ((a:Rat)*(z i*(c:Rat))-(dl:Rat)*(z j*(dM:Rat))):=fun i j a c dl dM bt aP K7 tg=>h.fit (a:=80) (by omega) (by
  rw [show ((a:Rat)*(z i*(c:Rat))-(dl:Rat)*(z j*(dM:Rat)))*w=(a:Rat)*(z i*(c:Rat))*w-(dl:Rat)*(z j*(dM:Rat))*w by grind]
  exact ((nK i a c bt aP).sub (nK j dl dM K7 tg)).mono (by omega))
 have iv:=J7 ((bW 0 _ D.pH).1 rfl)
 have s1:=J7 ((bW 1 _ D.gi).1 rfl)
 unfold zP
 rw [D.p5,D.hQ]
 refine aB (IV s D.d.ok bn h.yI) (eX rfl (aB (x6 D f8).1 (eX rfl (bK (by simp only [dp];omega) (aB (x:=di (z 0)) (hq Cd) (aB (AO _) (eK iv (bK (by simp only [dp];omega) (aB (x:=di (z 1)) (hq mG) (aB (AO _) (eK s1 ?_)))))))))))
 exact aB D.e0 (aB (sa uL) (aB (A5 (h.yI 0) (tS uL) f5) (aB aw (aB (sa Sz) (aB (A5 (h.yI 1) (tS Sz) Md)
  (aB (OK f5 Md SA SB (wB 0 _ 5 (by omega) (by decide)) (wB 1 _ k (by omega) (by omega)) (jL 0 1 _ 5 _ k (by omega) (by decide) (by omega) (by omega)) an) (eX rfl
    (aB (OK Md f5 SA SB (wB 1 _ k (by omega) (by omega)) (wB 0 _ 5 (by omega) (by decide)) (jL 1 0 _ k _ 5 (by omega) (by omega) (by omega) (by decide)) cb) rfl))))))))
theorem UL (x0:List Int)(i0:(fun l=>l.length≤maxLen∧ ∀x∈l,(fun _=>True) x) x0):Du x0=some true:=by
 unfold Du
 by_cases h0:(1048576:Int)<len_ eU8 x0
 ·exact eh h0 rfl
 have aP:x0.length≤1048576:=by rw [h6] at h0;omega
 obtain ⟨lW,fT,l,b,e,D⟩:=Vp x0 aP
 obtain ⟨s,bW⟩ : ∃s:ca,s=⟨lW,fT⟩:=⟨_,rfl⟩
 rw [← bW] at e D
 obtain ⟨k,aw,Cs,FE⟩:=D.aw
 obtain ⟨qE,pF,Ci⟩:=D.Sv
 have v:=D.d.v
 have tB:=uf s
 have bq:=v.2.2.1
 have f8:uq b:=⟨D.p5,D.hQ,by omega⟩
 obtain ⟨c,tt⟩ : ∃c:bu,c=⟨b.c0,b.c1,U (b.dW+1),b.dX⟩:=⟨_,rfl⟩
 have adv:c.dW=b.dW+1:=by rw [tt];exact cQ (by omega) (by omega)
 have adw:c.dX=b.dX:=by rw [tt]
 have bA:c.c0=b.c0:=by rw [tt]
 have SC:c.c1=b.c1:=by rw [tt]
 have mH:uq c:=⟨by rw [bA,D.p5],by rw [SC,D.hQ],by omega⟩
 have sx:uq ⟨b.c0,b.c1,1,1⟩:=⟨D.p5,D.hQ,by simp⟩
 have tA:(⟨c.c0,c.c1,1,1⟩:bu)=⟨b.c0,b.c1,1,1⟩:=by rw [bA,SC]
 have pH:hh s 0=5:=by unfold hh;rw [D.e0];rfl
 have gi:hh s 1=k:=by unfold hh;rw [aw];rfl
 have uh:([b]:List bu).set 0 ⟨b.c0,b.c1,U (b.dW+1),b.dX⟩=[c]:=by rw [tt];rfl
 obtain ⟨cc,FO,bI⟩ : ∃q z,pI s l [⟨b.c0,b.c1,1,1⟩]=some (q,z):=by
  rcases Ea D sx with ⟨_,a⟩|⟨_,_,_,a⟩<;>exact ⟨_,_,a⟩
 refine eK h0 (aB e ?_)
 simp only
 rcases Ea D f8 with ⟨ho,h3⟩|⟨x,w,q,h3⟩
 ·refine aB h3 (aB (x6 D f8).2.1 (eX rfl (hp rfl (bK (by simp) (aB (x:=b) rfl (bK (by omega) (aB (x:=b) rfl ?_)))))))
  rw [uh]
  refine aB (x:=c) rfl (aB (x6 D mH).1 (eX rfl ?_))
  have ⟨bk,Cw,j2⟩ : ∃q z,pI s l [c]=some (q,z):=by
   rcases Ea D mH with ⟨_,a⟩|⟨_,_,_,a⟩<;>exact ⟨_,_,a⟩
  exact aB j2 (aB (holds_of h3 bI) (hp rfl rfl))
 obtain ⟨an,cb⟩:=Yt D f8 q.nd.1
 have bh:=Ys v q (by show 2*cP s+2≤20;omega)
 have oO:=Zd s an.1
 have aL:=D.FQ.1
 have aJ:=D.FQ.dh
 obtain ⟨Cy,-⟩:=Kj s D.d l aL aJ
 have eq:=Ze s D.d.ok v aL aJ Cy bh (Zc an) oO
 have LP:=cb
 unfold yH at LP
 rw [show ((0:Nat):Int)=0 from rfl,show ((1:Nat):Int)=1 from rfl,pH,gi,Rat.intCast_mul,Rat.intCast_mul,Rat.intCast_mul,Rat.intCast_mul] at LP
 obtain ⟨j8,jM⟩:=LP
 have adx:=Yu D bh oO aw (by omega) (by grind) (by grind)
 obtain ⟨r,bE,-,nI⟩:=abk s D.d l aL aJ
 have ap:r=true:=nI.2 ⟨x,an⟩
 rw [ap] at bE
 have EZ:oI (hS s [c].length) (eY s [c].length) (h4 s [c]) (iw s l):=Xr D mH an (by
  unfold yH
  rw [show ((0:Nat):Int)=0 from rfl,show ((1:Nat):Int)=1 from rfl,pH,gi,adv,adw]
  have p0:0≤gg s x (bU s) 0:=(oO 0 _ D.pH).1 rfl
  have hf:0≤gg s x (bU s) 1:=(oO 1 _ D.gi).1 rfl
  have g0:0≤(k:Rat)*gg s x (bU s) 1:=Rat.mul_nonneg (Rat.intCast_nonneg.2 (by omega)) hf
  rw [Rat.intCast_mul,Rat.intCast_mul,Rat.intCast_mul,Rat.intCast_mul,Rat.intCast_add]
  constructor<;>grind)
 refine aB h3 (aB (x6 D f8).2.1 (eX rfl (eX rfl (aB eq (eX rfl (bK (by simp) (aB (x:=b) rfl (aB adx (eX rfl (aB bE (eX rfl (bK (by omega) (aB (x:=b) rfl ?_)))))))))))))
 rw [uh]
 refine aB (x:=c) rfl (aB (x6 D mH).1 (eX rfl ?_))
 rcases Ea D mH with ⟨jN,_⟩|⟨_,_,_,j2⟩
 ·exact (jN EZ).elim
 refine aB j2 (eX rfl (aB (holds_of h3 bI) ?_))
 cases FO with
 | false =>
  have:=holds_of (b:=c) j2 (by rw [tA];exact bI)
  exact eX rfl (aB this rfl)
 | true=>exact hp rfl rfl
end Go.Proofs.YtgfpnhmcmgnepacGreat
