/- Lemmas, plain functions of the program, and what they answer. No condition. -/
import Derived.Test.YtfdnefmiaihfcaaGreatME
namespace Go.Proofs.YtfdnefmiaihfcaaGreat
set_option linter.unusedVariables false
set_option linter.unusedSimpArgs false
open Go Go.VL
theorem WS (c:List Int)(aP:c.length≤1048576)(i h:Int)(af:0≤i): ∃fC fz eI cj,ya c i h=some (fC,fz,eI,cj)∧m9 ⟨fC,fz⟩∧0≤eI:=by
 obtain ⟨b,nc,o,ax,p4⟩:=H0 3 (by omega) (by omega) c aP i h af
 unfold ya
 cases b with
 | true =>
  obtain ⟨fC,fz,mF,R,e,d,pk⟩:=XH c aP nc o p4
  exact ⟨fC,fz,mF,R,aE ax (ep rfl (aE e rfl)),d,pk⟩
 | false =>
  obtain ⟨fC,fz,mF,R,e,d,pk⟩:=WR c aP nc o p4
  exact ⟨fC,fz,mF,R,aE ax (fB rfl (aE e rfl)),d,pk⟩
def DW (s:cw)(l:List Int):Prop:=l.length=2*s.cx.length∧ ∀x∈l,-8≤x∧x≤4
theorem Wd (s:cw)(d:m9 s)(c:List Int)(aP:c.length≤1048576)(i h:Int)(af:0≤i): ∃l eI cj,yb s c i h=some (l,eI,cj)∧DW s l∧0≤eI:=by
 have bI:=d.v.2.2.1
 have ae:=d.KC
 have aa7:U ((2:Int)*(len_ cS s.cx))=((2*s.cx.length:Nat):Int):=by rw [g8,cP (by omega) (by omega)];omega
 unfold yb
 rw [aa7,Int.toNat_natCast]
 obtain ⟨⟨j,g,row⟩,e,aW,bh,cf⟩:=jb (f:=fun w:Int×Int×Int×(List Int)=>ts s.cx (s.cx.length:Nat) c w.1 w.2.1 w.2.2.1 w.2.2.2) (fun (k:Nat) (q:Int×Int×List Int)=>((k:Int),q.1,q.2.1,q.2.2)) s.cx.length (fun _ q=>0≤q.1∧q.2.2.length=2*s.cx.length∧ ∀x∈q.2.2,-8≤x∧x≤4) (fun q=>q)
  (fun k aU q a8=>by
    obtain ⟨j,g,row⟩:=q
    obtain ⟨hn,im,bs⟩:=a8
    simp only at hn im bs
    have aa:=List.getElem?_eq_getElem aU
    have pw:U ((2:Int)*((k:Nat):Int))=((2*k:Nat):Int):=by rw [cP (by omega) (by omega)];omega
    by_cases f:s.cx[k].np=true
    ·refine ⟨(j,g,row),?_,hn,im,bs⟩
     simp only
     unfold ts
     exact dQ (by omega) (b2 (by omega) (aE (gt rfl aa) (ep f (by rw [fZ (by omega)]))))
    ·obtain ⟨fm,eQ,oD,gK,ad,s1⟩:=la 7 (by omega) (by omega) c aP j g hn
     obtain ⟨eN,d6,tm,h7,b3,s2⟩:=la 9 (by omega) (by omega) c aP eQ oD s1
     have v1:U (fm-(3:Int))=fm-3:=cP (by omega) (by omega)
     have v2:U (0-eN)=0-eN:=cP (by omega) (by omega)
     refine ⟨(d6,tm,(row.set (2*k) (fm-3)).set (2*k+1) (0-eN)),?_,s2,by simp only [List.length_set];omega,fun x hm=> ?_⟩
     ·simp only
      unfold ts
      rw [pw,fZ (n:=2*k) (by omega),Int.toNat_natCast,Int.toNat_natCast,Nat.zero_add,Nat.zero_add]
      refine dQ (by omega) (b2 (by omega) (aE (gt rfl aa) (fB (by simpa using f) (aE gK (b2 (by omega) (b2 (by omega) (aE h7 (b2 (by omega) (b2 (by rw [List.length_set];omega) ?_)))))))))
      simp only
      rw [v1,v2,fZ (by omega),Int.toNat_natCast]
     ·simp only at hm
      rcases List.mem_or_eq_of_mem_set hm with hm|rfl
      ·rcases List.mem_or_eq_of_mem_set hm with hm|rfl
       ·exact bs x hm
       ·omega
      ·omega)
  (fun q _=>by simp only;unfold ts;exact dR (by omega) rfl) (i,h,List.replicate (2*s.cx.length) 0) ⟨af,by simp,fun x aa=>by
    simp only [List.mem_replicate] at aa;omega⟩
 simp only at aW bh cf
 obtain ⟨b,mF,R,aF,pk⟩:=H0 8 (by omega) (by omega) c aP j g aW
 have eR:Bt s.cx (len_ cS s.cx) c 0 i h (List.replicate (2*s.cx.length) 0)=some (j,g,row):=by
  unfold Bt
  rw [g8]
  exact e
 cases b with
 | false=>exact ⟨row,mF,R,b2 (by omega) (aE eR (aE aF (fB rfl rfl))),⟨bh,cf⟩,pk⟩
 | true =>
  have wl:U (((row.length:Nat):Int)-(1:Int))=((row.length-1:Nat):Int):=by rw [cP (by omega) (by omega)];omega
  refine ⟨row.set (row.length-1) 4,mF,R,b2 (by omega) (aE eR (aE aF (ep rfl ?_))),⟨by rw [List.length_set];exact bh,fun x hm=> ?_⟩,pk⟩
  ·simp only
   rw [wl,Int.toNat_natCast,Nat.zero_add]
   exact b2 (by omega) (b2 (by omega) rfl)
  ·rcases List.mem_or_eq_of_mem_set hm with hm|rfl
   ·exact cf x hm
   ·omega
theorem T8 (c:List Int)(aP:c.length≤1048576): ∃s l,BR c=some (s,l)∧m9 s∧DW s l:=by
 obtain ⟨h0,e0⟩:=XG c aP
 obtain ⟨fC,fz,nc,o,ax,d,p4⟩:=WS c aP 0 h0 (by omega)
 obtain ⟨l,mF,R,aF,Eb,-⟩:=Wd ⟨fC,fz⟩ d c aP nc o p4
 exact ⟨⟨fC,fz⟩,l,aE e0 (aE (x:=(fC,fz,l,mF,R)) (aE ax (aE aF rfl)) rfl),d,Eb⟩
theorem Mc (s:cw)(v:mc s)(l:List Int)(aG:l.length=2*s.cx.length)(aM:∀x∈l,-100≤x∧x≤100): ∃r,qV s l=some r∧(r=true↔oL (2*fe s) (dq s) (nN s) (pz s l)):=by
 obtain ⟨q,aW,bh⟩:=Ny (OI s v l aM)
 unfold qV
 rcases bh with ⟨bR,t,a0,g,dC,rfl,-⟩|⟨bR,rfl⟩
 ·exact ⟨true,aE (Hx s v l aG aM) (aE aW rfl),by simp [bR]⟩
 ·exact ⟨false,aE (Hx s v l aG aM) (aE aW rfl),by simp [bR]⟩
theorem X9 (s:cw)(d:m9 s)(l:List Int)(aG:l.length=2*s.cx.length)(aM:∀x∈l,-100≤x∧x≤100):vZ s l=some true∧rG s l=some true:=by
 have e:w0 s.cx.length l=true:=by
  unfold w0
  rw [decide_eq_true aG,Bool.true_and,List.all_eq_true]
  intro x aa
  unfold rS
  exact decide_eq_true (aM x aa)
 have f:=L8 s d.v.2.2.1 l (by rw [aG,Hw];have:=d.v.2.2.1;omega)
 rw [e] at f
 exact ⟨f,aE d.ok (ep rfl (aE f rfl))⟩
theorem YW (s:cw)(d:m9 s)(l:List Int)(aG:l.length=2*s.cx.length)(aM:∀x∈l,-100≤x∧x≤100): ∃r,qh s l=some r∧qV s l=some r∧(r=true↔oL (2*fe s) (dq s) (nN s) (pz s l)):=by
 obtain ⟨r,ad,b3⟩:=Mc s d.v l aG aM
 exact ⟨r,aE (X9 s d l aG aM).2 (ep rfl (aE ad rfl)),ad,b3⟩
theorem DW.dx {s:cw}{l:List Int}(h:DW s l): ∀x∈l,-100≤x∧x≤100:=fun x aa=>by have:=h.2 x aa;omega
theorem XI {s:cw}(d:m9 s)(list:List Int):mc (tf s list)∧sw (tf s list)=some true:=by
 obtain ⟨f1,f2,f3,f4⟩:=d.v
 have v:mc (tf s list):=⟨f1,fun n m h=>by
  obtain ⟨k,aU⟩:=List.getElem?_of_mem (Ob (List.mem_of_getElem? h))
  exact f2 k m aU,f3,Nat.le_trans (HZ ..) f4⟩
 have name : ∀(n:Nat) j,s.cx[n]? = some j→oU[n]? = some j.mO:=fun n j h=>by
  have aG:=ft h
  have e:(s.cx.map (·.mO))[n]? = some j.mO:=by rw [List.getElem?_map,h];rfl
  rw [d.aa3,List.getElem?_take,if_pos aG] at e
  exact e
 exact ⟨v,OL _ v (fun n j h=>M4 (name n j h)) (fun i k x y aa aS cF=>O8 (name i x aa) (name k y aS) cF)⟩
theorem zr (s:cw)(v:mc s)(ok:sw s=some true)(l:List Int)(aG:l.length=2*s.cx.length)(aM:∀x∈l,-100≤x∧x≤100):rG s l=some true:=by
 have e:w0 s.cx.length l=true:=by
  unfold w0
  rw [decide_eq_true aG,Bool.true_and,List.all_eq_true]
  intro x aa
  unfold rS
  exact decide_eq_true (aM x aa)
 have f:=L8 s v.2.2.1 l (by rw [aG,Hw];have:=v.2.2.1;omega)
 rw [e] at f
 exact aE ok (ep rfl (aE f rfl))
noncomputable def jv (s:cw)(l:List Int)(k:Nat):Bool:=(qV (tf s [(k:Int)]) l).getD false
theorem yQ {p:Nat→Bool}{k:Nat}: ∀ {n:Nat},(k:Int)∈kB p n↔k<n∧p k=true
 | 0=>by simp [kB]
 | n+1=>by
  have ih:=yQ (p:=p) (k:=k) (n:=n)
  rw [kB]
  by_cases c:p n=true
  ·rw [if_pos c,List.mem_append,ih,List.mem_singleton]
   constructor
   ·rintro (⟨o,R⟩|h)
    ·exact ⟨by omega,R⟩
    ·have:k=n:=by omega
     subst this;exact ⟨by omega,c⟩
   ·rintro ⟨o,R⟩
    by_cases e:k=n
    ·exact .inr (by rw [e])
    ·exact .inl ⟨by omega,R⟩
  ·rw [if_neg c,ih]
   constructor
   ·rintro ⟨o,R⟩;exact ⟨by omega,R⟩
   ·rintro ⟨o,R⟩
    by_cases e:k=n
    ·subst e;exact (c R).elim
    ·exact ⟨by omega,R⟩
section
variable {s:cw} {l:List Int}
theorem IB (d:m9 s)(aG:l.length=2*s.cx.length)(aM:∀x∈l,-100≤x∧x≤100)(k:Nat):qV (tf s [(k:Int)]) l=some (jv s l k)∧qh (tf s [(k:Int)]) l=some (jv s l k):=by
 obtain ⟨v,ok⟩:=XI d [(k:Int)]
 obtain ⟨r,ad,-⟩:=Mc _ v l aG aM
 have:jv s l k=r:=by unfold jv;rw [ad];rfl
 rw [this]
 exact ⟨ad,aE (zr _ v ok l aG aM) (ep rfl (aE ad rfl))⟩
theorem IC (d:m9 s)(k:Nat):su s [(k:Int)]=some (tf s [(k:Int)]):=by
 have o:=d.v.2.2.1
 have R:=d.v.2.2.2
 exact T7 s (by omega) (by omega) _ (by simp)
theorem H3 (d:m9 s)(aG:l.length=2*s.cx.length)(aM:∀x∈l,-100≤x∧x≤100){k:Nat}(aU:k<s.b8.length):v5 s l (k:Int)=some (jv s l k) :=
 aE (zr s d.v d.ok l aG aM) (ep rfl (dR (by omega) (dR (by rw [g8];omega) (aE (IC d k) (aE (IB d aG aM k).1 rfl)))))
theorem WT (d:m9 s)(aG:l.length=2*s.cx.length)(aM:∀x∈l,-100≤x∧x≤100):vF s l=some (kB (fun k=> !jv s l k) s.b8.length):=by
 have bE:=d.v.2.2.2
 unfold vF
 refine aE (zr s d.v d.ok l aG aM) (ep rfl (aE ?_ rfl))
 unfold Fb
 rw [g8]
 refine NE (fun k=> !jv s l k) s.b8.length (fun n a1=> ?_) ?_
 ·have b7:=yP (fun k=> !jv s l k) n
  simp only
  unfold xP
  refine dQ (by omega) (aE (H3 d aG aM a1) ?_)
  rw [fZ (by omega)]
  cases jv s l n with
  | true=>exact ep rfl rfl
  | false=>exact fB rfl (b2 (by rw [List.length_append,List.length_singleton];omega) rfl)
 ·simp only
  unfold xP
  exact dR (by omega) rfl
theorem Vj (d:m9 s)(aG:l.length=2*s.cx.length)(aM:∀x∈l,-100≤x∧x≤100){k:Nat}(an:lx s.b8 (k:Int)=true):BH s l [(k:Int)]=some (jv s l k):=by
 have q:=Vi s d.v.2.2.2 [(k:Int)] (by simp)
 rw [show [(k:Int)].all (lx s.b8)=true by simp [an]] at q
 exact aE (zr s d.v d.ok l aG aM) (ep rfl (aE q (fB rfl (aE (IC d k) (aE (IB d aG aM k).1 rfl)))))
theorem WU (d:m9 s)(aG:l.length=2*s.cx.length)(aM:∀x∈l,-100≤x∧x≤100)(aP:qh s l=some true):x4 s l=some (kB (fun k=>lx s.b8 (k:Int) && !jv s l k) s.b8.length):=by
 have bE:=d.v.2.2.2
 refine aE aP (ep rfl (aE (aE ?_ rfl) rfl))
 unfold Ee
 rw [g8]
 refine NE (fun k=>lx s.b8 (k:Int) && !jv s l k) s.b8.length (fun n a1=> ?_) ?_
 ·have b7:=yP (fun k=>lx s.b8 (k:Int) && !jv s l k) n
  simp only
  unfold xJ
  refine dQ (by omega) (aE (Hy s n) ?_)
  rw [fZ (by omega)]
  cases an:lx s.b8 (n:Int) with
  | true =>
   have aF:Bn n (⟨s.cx,s.b8⟩:cw) l=some (!jv s l n):=aE (Vj d aG aM an) rfl
   refine ep rfl (aE aF ?_)
   cases jv s l n with
   | true=>exact fB rfl rfl
   | false=>exact ep rfl (b2 (by rw [List.length_append,List.length_singleton];omega) rfl)
  | false=>exact fB rfl rfl
 ·simp only
  unfold xJ
  exact dR (by omega) rfl
theorem We (d:m9 s)(aG:l.length=2*s.cx.length)(aM:∀x∈l,-100≤x∧x≤100)(ng:oL (2*fe s) (dq s) (nN s) (pz s l)){k:Nat}(aU:k<s.b8.length):
 ∃bD af gm pA,hP bD∧hP af∧yk s l (k:Int)=some (⟨k6 bD,k6 af,gm,pA⟩,true):=by
 obtain ⟨bD,af,gm,pA,C,o,R,ae,e⟩:=WN s d.v l aM ng (k:Int)
 refine ⟨bD,af,gm,pA,o,R,aE (zr s d.v d.ok l aG aM) (ep rfl (dR (by omega) (dR (by rw [g8];omega) (aE (Hx s d.v l aG aM) (aE e (b2 ?_ rfl))))))⟩
 rw [ae];exact dG ..
theorem WV (d:m9 s)(aG:l.length=2*s.cx.length)(aM:∀x∈l,-100≤x∧x≤100)(ng:oL (2*fe s) (dq s) (nN s) (pz s l))(aP:qh s l=some true){k:Nat}(aU:k<s.b8.length):
 ∃x,sA s l (k:Int)=some x∧(x.toList == (⟨#[]⟩:ByteArray).toList)=false∧(x.toList == (⟨#[99,114,105,116,105,99,97,108]⟩:ByteArray).toList) = !jv s l k:=by
 have h0:=H3 d aG aM aU
 unfold sA
 cases q:jv s l k with
 | false =>
  rw [q] at h0
  exact ⟨⟨#[99,114,105,116,105,99,97,108]⟩,aE aP (ep rfl (dR (by omega) (dR (by rw [g8];omega) (aE h0 (fB rfl rfl))))),by decide +kernel,by decide +kernel⟩
 | true =>
  rw [q] at h0
  obtain ⟨bD,af,gm,pA,f1,f2,e⟩:=We d aG aM ng aU
  obtain ⟨b,aj⟩:=WO f1 f2 gm pA
  have wT:(((⟨#[117,115,101,102,117,108]⟩:ByteArray).toList == (⟨#[]⟩:ByteArray).toList)=false)∧((⟨#[117,115,101,102,117,108]⟩:ByteArray).toList == (⟨#[99,114,105,116,105,99,97,108]⟩:ByteArray).toList)=false:=by decide +kernel
  have idle:(((⟨#[105,100,108,101]⟩:ByteArray).toList == (⟨#[]⟩:ByteArray).toList)=false)∧((⟨#[105,100,108,101]⟩:ByteArray).toList == (⟨#[99,114,105,116,105,99,97,108]⟩:ByteArray).toList)=false:=by decide +kernel
  have pre : ∀ {f:(pa×Bool)→Option ByteArray} {x},f (⟨k6 bD,k6 af,gm,pA⟩,true)=some x→(yk s l (k:Int) >>= f)=some x:=fun h=>aE e h
  cases b with
  | true=>exact ⟨_,aE aP (ep rfl (dR (by omega) (dR (by rw [g8];omega) (aE h0 (ep rfl (aE e (aE aj (ep rfl rfl)))))))),wT.1,wT.2⟩
  | false =>
   by_cases bF:(kU (gn bD).1 == 0)=true
   ·by_cases cN:(kU (gn af).1 == 0)=true
    ·exact ⟨_,aE aP (ep rfl (dR (by omega) (dR (by rw [g8];omega) (aE h0 (ep rfl (aE e (aE aj (fB rfl (aE (yD f1) (ep bF (aE (yD f2) (ep cN rfl)))))))))))),idle.1,idle.2⟩
    ·exact ⟨_,aE aP (ep rfl (dR (by omega) (dR (by rw [g8];omega) (aE h0 (ep rfl (aE e (aE aj (fB rfl (aE (yD f1) (ep bF (aE (yD f2) (fB (by simpa using cN) rfl)))))))))))),wT.1,wT.2⟩
   ·exact ⟨_,aE aP (ep rfl (dR (by omega) (dR (by rw [g8];omega) (aE h0 (ep rfl (aE e (aE aj (fB rfl (aE (yD f1) (fB (by simpa using bF) rfl)))))))))),wT.1,wT.2⟩
end
theorem Oc (list:List Int)(aG:list.length≤1048576)(k:Int):wB list k=some (decide (k∈list)):=by
 obtain ⟨r,e,h⟩:=pG (f:=fun w:Int=>vS k list (list.length:Nat) w) (fun (i:Nat) (_:Unit)=>(i:Int)) list.length (fun i _=> ∀j,j<i→list[j]? ≠ some k) (fun r=>(r = .inr ()∧k∈list)∨(r = .inl ()∧k ∉ list))
  (fun i af _ cW=>by
    have aa:=List.getElem?_eq_getElem af
    unfold vS
    by_cases c:list[i]=k
    ·exact .inr ⟨_,dQ (by omega) (b2 (by omega) (aE (gt rfl aa) (ep (by simp [c]) rfl))),.inl ⟨rfl,c▸List.getElem_mem af⟩⟩
    ·refine .inl ⟨(),dQ (by omega) (b2 (by omega) (aE (gt rfl aa) (fB (Ae c) (by rw [I5 (by omega)])))),fun j aC=> ?_⟩
     by_cases e:j=i
     ·rw [e,aa];exact fun q=>c (Option.some.inj q)
     ·exact cW j (by omega))
  (fun _ cW=>⟨_,by unfold vS;exact dR (by omega) rfl,.inr ⟨rfl,fun aU=>by obtain ⟨j,aC⟩:=List.getElem?_of_mem aU;exact cW j (ft aC) aC⟩⟩) () (fun j aC=>by omega)
 unfold wB Hc
 rw [g8]
 rcases h with ⟨rfl,h⟩|⟨rfl,h⟩
 ·rw [decide_eq_true h];exact aE e rfl
 ·rw [decide_eq_false h];exact aE e rfl
theorem Sj (x0:List Int)(i0:(fun l=>l.length≤maxLen∧ ∀x∈l,(fun _=>True) x) x0):BM x0=some true:=by
 unfold BM
 by_cases h0:(1048576:Int)<len_ eU8 x0
 ·exact dQ h0 rfl
 have aP:x0.length≤1048576:=by rw [g8] at h0;omega
 obtain ⟨s,l,ax,d,Eb⟩:=T8 x0 aP
 have aG:=Eb.1
 have aM:=Eb.dx
 have bE:=d.v.2.2.2
 obtain ⟨p,bF,cN,na⟩:=YW s d l aG aM
 have Kg:=WT d aG aM
 have hlen:(kB (fun k=> !jv s l k) s.b8.length).length≤8:=Nat.le_trans (yP ..) bE
 have YX : ∀k,k<s.b8.length→decide ((k:Int)∈kB (fun k=> !jv s l k) s.b8.length) = !jv s l k:=fun k aU=>by
  cases q:jv s l k with
  | true=>exact decide_eq_false fun h=>by have:=(yQ.1 h).2;rw [q] at this;cases this
  | false=>exact decide_eq_true (yQ.2 ⟨aU,by rw [q];rfl⟩)
 have main : ∀w8,(p=true→w8=kB (fun k=>lx s.b8 (k:Int) && !jv s l k) s.b8.length)→Bp l (kB (fun k=> !jv s l k) s.b8.length) w8 p s.b8 (len_ c2 s.b8) s.cx 0=some (.inl ()):=fun w8 a1=>by
  unfold Bp
  rw [g8]
  obtain ⟨_,e,-⟩:=jb (f:=fun w:Int=>vr l (kB (fun k=> !jv s l k) s.b8.length) w8 p s.b8 (s.b8.length:Nat) s.cx w) (fun (k:Nat) (_:Unit)=>(k:Int)) s.b8.length (fun _ _=>True) (fun _=>(.inl ():Unit⊕Unit))
   (fun k aU _ _=>by
     refine ⟨(),?_,trivial⟩
     have aa:=List.getElem?_eq_getElem aU
     have bR:=H3 d aG aM aU
     unfold vr
     refine dQ (by omega) (b2 (by omega) (aE (gt rfl aa) (aE (IC d k) (aE (IB d aG aM k).2 (aE (Oc _ (by omega) k) (ep (by rw [YX k aU];simp) (aE bR (fB (by cases jv s l k<;>rfl) ?_))))))))
     rw [fZ (by omega)]
     cases q:p with
     | true =>
      rw [q] at bF na
      obtain ⟨x,ad,b3,bg⟩:=WV d aG aM (na.1 rfl) bF aU
      have an:lx s.b8 (k:Int)=(s.b8[k].lg == 1):=by
       unfold lx
       rw [Int.toNat_natCast,aa,decide_eq_true (by omega)];simp
      refine ep rfl ?_
      by_cases c:(s.b8[k].lg == 1)=true
      ·rw [c] at an
       have ace:w8.length≤8:=by rw [a1 q];exact Nat.le_trans (yP ..) bE
       have hnd:decide ((k:Int)∈w8) = !jv s l k:=by
        rw [a1 q]
        cases bh:jv s l k with
        | true=>exact decide_eq_false fun h=>by have:=(yQ.1 h).2;rw [bh,an] at this;cases this
        | false=>exact decide_eq_true (yQ.2 ⟨aU,by rw [bh,an];rfl⟩)
       exact ep c (aE (Oc _ (by omega) k) (ep (by rw [hnd];simp) (aE ad (ep (by rw [b3];rfl) (ep (by rw [bg];simp) rfl)))))
      ·exact fB (by simpa using c) (aE ad (ep (by rw [b3];rfl) (ep (by rw [bg];simp) rfl)))
     | false =>
      rw [q] at bF
      have aaD:sA s l (k:Int)=some ⟨#[]⟩:=aE bF (fB rfl rfl)
      exact fB rfl (aE aaD (ep (by decide +kernel) rfl)))
   (fun _ _=>by unfold vr;exact dR (by omega) rfl) () trivial
  exact e
 cases q:p with
 | true =>
  rw [q] at bF
  have Kh:yf s l=some ((len_ J (kB (fun k=> !jv s l k) s.b8.length)) == (0:Int)):=aE bF (ep rfl (aE Kg rfl))
  have hm:=main _ (fun _=>rfl)
  rw [q] at hm
  exact dR h0 (aE ax (aE Kg (aE (WU d aG aM bF) (aE bF (aE hm (aE Kh (ep rfl (by simp))))))))
 | false =>
  rw [q] at bF
  have hnd:x4 s l=some []:=aE bF (fB rfl rfl)
  have Kh:yf s l=some false:=aE bF (fB rfl rfl)
  have hm:=main [] (fun h=>by rw [q] at h;cases h)
  rw [q] at hm
  exact dR h0 (aE ax (aE Kg (aE hnd (aE bF (aE hm (aE Kh (fB rfl rfl)))))))
end Go.Proofs.YtfdnefmiaihfcaaGreat
