/- Lemmas, plain functions of the program, and what they answer. No condition. -/
import Derived.Carry
import Derived.ChangeOld
import Derived.ChangeSlices
import Derived.LoopN
import Derived.OwnWalk
import Derived.Scope
import Derived.Test.YthgbjflfgmahbafGreatChecked
import Derived.Test.YthgbjflfgmahbafGreatMA
namespace Go.VL
set_option linter.unusedVariables false
set_option linter.unusedSimpArgs false
open Go
theorem yH {α β:Type}{f ml:α->β->Option (β×List Prop)}(cp:∀a b z,ml a b=some z->f a b=some z): ∀ {l:List α} {m:List β} {z:List β×List Prop},oJ ml l m=some z->oJ f l m=some z
 | [],[],z,h=>h
 | [],_::_,z,h=>by simp[oJ] at h
 | _::_,[],z,h=>by simp[oJ] at h
 | a::l,b::m,z,h=>by
  simp only[oJ] at h ⊢;split at h
  ·rename_i kD cf aF aU h1 h2;rw[cp _ _ _ h1,yH cp h2];exact h
  simp at h
section
variable {a7 jH:Nat->Option (List aR)} (ee : ∀r row,jH r=some row->a7 r=some row)
include ee
theorem KW {r k:Nat}{o:aR}(h:er (jH r) k=some o):er (a7 r) k=some o:=by
 cases ak:jH r with
 | none=>rw[ak] at h;simp[er] at h
 | some row=>rw[ee r row ak];rw[ak] at h;exact h
theorem O2 {r k:Nat}{dV:f8}{z:aR×List Prop}(h:rK (jH r) k dV=some z):rK (a7 r) k dV=some z:=by
 cases ak:jH r with
 | none=>rw[ak] at h;unfold rK at h;split at h<;>simp[er] at h
 | some row=>rw[ee r row ak];rw[ak] at h;exact h
theorem Ex {b7:Nat->Option Nat}{a3:iP}{bN:hU->Bool}{c:vZ}{x:aA}{z:aA×List Prop}(h:oI jH b7 a3 bN c x=some z):oI a7 b7 a3 bN c x=some z:=by
 cases c with
 | id =>
  simp only[oI] at h ⊢;exact h
 | hf sz=>cases x<;>exact h
 | lP=>exact h
 | cM y=>exact h
 | v5 sz=>exact h
 | len n=>cases x<;>exact h
 | at_ j i n=>cases x<;>exact h
 | view dU o es =>
  cases x<;>simp only[oI,reduceCtorEq] at h ⊢;split at h
  ·rename_i row kK h1 h2;rw[ee _ _ h1,ee _ _ h2];exact h
  simp at h
 | eJ es =>
  cases x<;>simp only[oI,reduceCtorEq] at h ⊢;split at h
  ·rename_i o an;rw[KW ee an];exact h
  simp at h
theorem OT {b7:Nat->Option Nat}{a3:iP}{bN:hU->Bool}{c:FY}{x:aA}{z:aA×List Prop}(h:rI jH b7 a3 bN c x=some z):rI a7 b7 a3 bN c x=some z:=by
 cases c with
 | cr c =>
  simp only[rI] at h ⊢;split at h
  ·rename_i a2
   rw[dz a2];split at h
   ·exact h
   ·exact h
   ·exact h
   exact Ex ee h
  rename_i a2;rw[dB a2];exact Ex ee h
 | agg l =>
  cases x<;>simp only[rI,reduceCtorEq] at h ⊢;split at h
  ·rename_i eG al a1;rw[yH (fun a b z h=>Ex ee h) a1];exact h
  simp at h
 | ptr l =>
  cases x<;>simp only[rI,reduceCtorEq] at h ⊢;split at h;rotate_left
  ·simp at h
  rename_i o an;rw[KW ee an];simp only;split at h
  ·rename_i c jP
   split at h
   ·rename_i a1
    rw[dz a1];split at h
    ·rename_i eG al jG;rw[yH (fun a b z h=>Ex ee h) jG];exact h
    simp at h
   simp at h
  simp at h
 | y9 l =>
  simp only[rI] at h ⊢;split at h;rotate_left
  ·simp at h
  split at h;rotate_left
  ·simp at h
  rename_i o an;rw[KW ee an];simp only;split at h
  ·rename_i c jP
   split at h
   ·rename_i a1
    rw[dz a1];split at h
    ·rename_i eG al jG;rw[yH (fun a b z h=>Ex ee h) jG];exact h
    simp at h
   simp at h
  simp at h
theorem WN {b7:Nat->Option Nat}{a3:iP}{bN:hU->Bool}{c:n9}{x:aA}{z:aA×List Prop}(h:qY jH b7 a3 bN c x=some z):qY a7 b7 a3 bN c x=some z:=by
 cases c with
 | a6 c =>
  simp only[qY] at h ⊢;split at h
  ·rename_i a2
   rw[dz a2];split at h
   ·exact h
   exact OT ee h
  rename_i a2;rw[dB a2];exact OT ee h
 | comp l =>
  cases x<;>simp only[qY,reduceCtorEq] at h ⊢
  all_goals
   split at h
   ·rename_i eG al a1;rw[yH (fun a b z h=>OT ee h) a1];exact h
   simp at h
theorem WO {b7:Nat->Option Nat}{a3:iP}{bN:hU->Bool}{c:kg}{row:List aR}{z:List aR×List Prop}(h:ls jH b7 a3 bN c row=some z):ls a7 b7 a3 bN c row=some z:=by
 cases c with
 | pure=>exact h
 | cM e8=>exact h
 | bq aJ=>exact h
 | rx aJ=>cases row with
  | nil=>simp[ls] at h
  | cons o l=>cases l<;>simp[ls] at h
 | drop=>cases row with
  | nil=>simp[ls] at h
  | cons o l=>cases l<;>simp[ls] at h
 | box l =>
  match row,h with
  | [o],h =>
   simp only[ls] at h ⊢;split at h
   ·rename_i c jP
    split at h
    ·rename_i a4
     rw[dz a4];split at h
     ·rename_i eG al a1;rw[yH (fun a b z h=>Ex ee h) a1];exact h
     simp at h
    simp at h
   simp at h
  | [],h=>simp[ls] at h
  | _::_::_,h=>simp[ls] at h
theorem OJ {b7:Nat->Option Nat}{a3:iP}: ∀ {l:List Src} {di:List kg} {z:List (List aR)×List Prop},pf jH b7 a3 l di=some z->pf a7 b7 a3 l di=some z
 | [],[],z,h=>h
 | .row r::l,c::di,z,h=>by
  simp only[pf] at h ⊢;split at h
  ·rename_i row eP
   rw[ee r row eP];simp only;split at h
   ·rename_i e8 cf T aU h1 h2;rw[WO ee h1,OJ h2];exact h
   simp at h
  simp at h
 | .al r k o::l,c::di,z,h=>by
  simp only[pf] at h ⊢;split at h
  ·rename_i row eP
   rw[ee r row eP];simp only;split at h
   ·rename_i e8 cf T aU h1 h2;rw[WO ee h1,OJ h2];exact h
   simp at h
  simp at h
 | [],_::_,z,h=>by simp[pf] at h
 | .row _::_,[],z,h=>by simp[pf] at h
 | .al .. :: _,[],z,h=>by simp[pf] at h
omit ee in
theorem KC {B6:Nat->Option (List aR)}{b7:Nat->Option Nat}{nC:iP}: ∀ {l:List Src} {di:List kg} {T:List (List aR)} {a7 jH:Nat->Option (List aR)} {z:List (Nat×List aR)×List Prop},
 (∀r row,jH r=some row->a7 r=some row)->nS B6 b7 nC jH l di T=some z->nS B6 b7 nC a7 l di T=some z
 | [],[],[],a7,jH,z,_,h=>h
 | .row q::l,c::di,row::T,a7,jH,z,ee,h=>by
  simp only[nS] at h ⊢;split at h
  ·rename_i e8 cf h1
   split at h
   ·rename_i u aU h2;rw[KC (fun r row ak=>by split at ak<;>rename_i e<;>simp only[e,if_true,if_false]<;>first|exact ak|exact ee _ _ ak) h2];exact h
   simp at h
  simp at h
 | .al q k o::l,c::di,row::T,a7,jH,z,ee,h=>by
  simp only[nS] at h ⊢;split at h
  ·rename_i oN a1
   rw[ee _ _ a1];simp only;split at h
   ·rename_i cD cf h1
    split at h
    ·rename_i u aU h2;rw[KC (fun r row ak=>by split at ak<;>rename_i e<;>simp only[e,if_true,if_false]<;>first|exact ak|exact ee _ _ ak) h2];exact h
    simp at h
   simp at h
  simp at h
 | [],[],_::_,_,_,_,_,h=>by simp[nS] at h
 | [],_::_,_,_,_,_,_,h=>by simp[nS] at h
 | .row _::_,[],_,_,_,_,_,h=>by simp[nS] at h
 | .al .. :: _,[],_,_,_,_,_,h=>by simp[nS] at h
 | .row _::_,_::_,[],_,_,_,_,h=>by simp[nS] at h
 | .al .. :: _,_::_,[],_,_,_,_,h=>by simp[nS] at h
omit ee in
theorem Ph : ∀ {u:List (Nat×List aR)} {a7 jH:Nat->Option (List aR)} {q:Nat} {row:List aR},(∀r row,jH r=some row->a7 r=some row)->Fz u jH q=some row->Fz u a7 q=some row
 | [],_,_,_,_,ee,h=>ee _ _ h
 | (r,af)::u,a7,jH,q,row,ee,h=>Ph (u:=u) (fun r row ak=>by split at ak<;>rename_i e<;>simp only[e,if_true,if_false]<;>first|exact ak|exact ee _ _ ak) h
theorem agp {a8 r n:Nat}{bM tb:jX}(h:AK jH a8 r n bM=some tb):AK a7 a8 r n bM=some tb:=by
 unfold AK at h ⊢;split at h
 ·rename_i gW l h1 h2;rw[Ph ee h1,Ph ee h2];exact h
 simp at h
theorem ahG {P:Program}{a8:Nat}{f:FuncId}{args:List aA}{c1:B4}{bM:jX}(h:E9 P jH a8 f args c1=some bM):E9 P a7 a8 f args c1=some bM:=by
 unfold E9 at h ⊢;simp only at h ⊢;split at h
 ·simp at h
 rename_i oB h0;split at h
 ·simp at h
 rename_i BG;rw[dB BG];split at h
 ·rename_i I6
  rw[dz I6];split at h
  ·rename_i zp
   split at h
   ·rename_i uS cf fN e9 u eV h1 R aj;rw[yH (fun a b z h=>WN ee h) h1,R,KC ee aj];exact h
   simp at h
  simp at h
 rename_i I6;rw[dB I6];split at h
 ·rename_i uS cf T aU fN e9 u eV h1 h2 R aj;rw[yH (fun a b z h=>WN ee h) h1,OJ ee h2,R,KC ee aj];exact h
 simp at h
end
theorem mapM_congr {α β:Type}{f ml:α->Option β}: ∀ {l:List α},(∀x∈l,ml x=f x)->l.mapM ml=l.mapM f
 | [],_=>rfl
 | x::l,h=>by rw[List.mapM_cons,List.mapM_cons,h x (by simp),mapM_congr fun y aY=>h y (by simp[aY])]
theorem ahH {P:Program}{a7 jH:Nat->Option (List aR)}{t:TypeId}{x mY:aA}{dV:f8}{bM:jX}(ee:∀r row,jH r=some row->a7 r=some row)(h:E5 P jH t x mY dV=some bM):E5 P a7 t x mY dV=some bM:=by
 unfold E5 at h ⊢;split at h
 ·split at h
  ·rename_i a0;rw[O2 ee a0];exact h
  simp at h
 simp at h
theorem K8 {P:Program}{E qk:Nat->aA}{a7 jH:Nat->Option (List aR)}{a8:Nat}{o:Oper}{dV:f8}{bM:jX}
 (fl : ∀x∈o.op.operands,ga qk x=ga E x) (ee : ∀r row,jH r=some row->a7 r=some row) (h:gf P qk jH a8 o dV=some bM):gf P E a7 a8 o dV=some bM:=by
 have bC : ∀ {r k:Nat} {z:aR×List Prop},rK (jH r) k dV=some z->rK (a7 r) k dV=some z:=fun h=>O2 ee h
 cases an:o.op with
 | move x=>simp only[gf,an] at h ⊢;rw[<- fl x (by simp[an,Op.operands])];exact h
 | assign x=>simp only[gf,an] at h ⊢;rw[<- fl x (by simp[an,Op.operands])];exact h
 | pick c x y =>
  simp only[gf,an] at h ⊢;rw[<- fl c (by simp[an,Op.operands]),<- fl x (by simp[an,Op.operands]),<- fl y (by simp[an,Op.operands])];exact h
 | alloc t=>simp only[gf,an] at h ⊢;exact h
 | box t x=>simp only[gf,an] at h ⊢;rw[<- fl x (by simp[an,Op.operands])];exact h
 | load t x =>
  simp only[gf,an] at h ⊢;rw[<- fl x (by simp[an,Op.operands])];split at h
  ·split at h
   ·rename_i a0;rw[bC a0];exact h
   simp at h
  ·exact h
  simp at h
 | store t x y =>
  simp only[gf,an] at h ⊢;rw[<- fl x (by simp[an,Op.operands]),<- fl y (by simp[an,Op.operands])];split at h
  ·split at h
   ·simp at h
   rename_i row eP;rw[ee _ row eP];exact h
  simp at h
 | nilCheck x =>
  simp only[gf,an] at h ⊢;rw[<- fl x (by simp[an,Op.operands])];split at h
  ·split at h
   ·rename_i a0;rw[bC a0];exact h
   simp at h
  ·exact h
  ·exact h
  simp at h
 | binOp op t x y cW =>
  simp only[gf,an] at h ⊢;rw[<- fl x (by simp[an,Op.operands]),<- fl y (by simp[an,Op.operands])];exact h
 | unOp op t x=>simp only[gf,an] at h ⊢;rw[<- fl x (by simp[an,Op.operands])];exact h
 | convert t cW x =>
  simp only[gf,an] at h ⊢;rw[<- fl x (by simp[an,Op.operands])];split at h
  ·exact h
  ·rename_i r k cj len h1 h2
   split at h
   ·rename_i al R aj;rw[KW ee aj,R];exact h
   simp at h
  simp at h
 | makeFunc f JJ c1 =>
  cases f with
  | func n =>
   simp only[gf,an] at h ⊢;have:c1.toList.map (ga qk)=c1.toList.map (ga E):=arE fun x U=>fl x (by simp[an,Op.operands];right;simpa using U);rw[<- this];exact h
  | _=>simp[gf,an] at h
 | makeSlice t x y =>
  simp only[gf,an] at h ⊢;rw[<- fl x (by simp[an,Op.operands]),<- fl y (by simp[an,Op.operands])];exact h
 | fieldAddr t x f =>
  simp only[gf,an] at h ⊢;rw[<- fl x (by simp[an,Op.operands])];split at h
  ·split at h
   ·split at h
    ·simp at h
    rename_i cK;rw[dB cK];split at h
    ·split at h
     ·rename_i a0;rw[bC a0];exact h
     simp at h
    ·exact h
    simp at h
   simp at h
  simp at h
 | field t x f=>simp only[gf,an] at h ⊢;rw[<- fl x (by simp[an,Op.operands])];exact h
 | indexAddr t x y =>
  simp only[gf,an] at h ⊢;rw[<- fl x (by simp[an,Op.operands]),<- fl y (by simp[an,Op.operands])];split at h
  ·split at h
   ·exact h
   ·split at h
    ·rename_i row eP;rw[ee _ row eP];exact h
    simp at h
   simp at h
  exact ahH ee h
 | index t x y =>
  simp only[gf,an] at h ⊢;rw[<- fl x (by simp[an,Op.operands]),<- fl y (by simp[an,Op.operands])];exact h
 | extract x i=>simp only[gf,an] at h ⊢;rw[<- fl x (by simp[an,Op.operands])];exact h
 | slice t x cj aa RF =>
  cases RF with
  | none =>
   simp only[gf,an] at h ⊢
   have e1:cj.map (ga qk)=cj.map (ga E):=by
    cases cj with
    | none=>rfl
    | some y=>simp only[arq];rw[fl y (by simp[an,Op.operands])]
   have e2:aa.map (ga qk)=aa.map (ga E):=by
    cases aa with
    | none=>rfl
    | some y=>simp only[arq];rw[fl y (by simp[an,Op.operands])]
   rw[<- fl x (by simp[an,Op.operands]),<- e1,<- e2];split at h
   ·exact h
   ·split at h
    ·simp at h
    rename_i row eP;rw[ee _ row eP];exact h
   ·exact h
   simp at h
  | some m=>simp[gf,an] at h
 | build t lP =>
  simp only[gf,an] at h ⊢;have ai : ∀p∈lP.toList,ga qk p.2=ga E p.2:=fun p ai=>fl p.2 (by simp only[an,Op.operands];rw[<- Array.mem_toList_iff];simp only[List.mem_map];exact⟨p,ai,rfl⟩);split at h
  ·rename_i nB z _ _
   split at h
   ·simp at h
   rename_i a0;rw[dB a0]
   have e:(lP.toList.mapM fun (p:Nat×Operand)=>(nB[p.1]?).map fun fd=>(fd.offset,P.cellsOf fd.type,ga qk p.2)) =
    lP.toList.mapM fun (p:Nat×Operand)=>(nB[p.1]?).map fun fd=>(fd.offset,P.cellsOf fd.type,ga E p.2):=mapM_congr fun p nX=>by rw[ai p nX]
   rw[<- e];exact h
  rw[<- (arE fun p nX=>by rw[ai p nX]:(lP.toList.map fun p=>(p.1,ga qk p.2))=lP.toList.map fun p=>(p.1,ga E p.2))];exact h
 | buildSlice t n lP =>
  simp only[gf,an] at h ⊢;have ai : ∀p∈lP.toList,ga qk p.2=ga E p.2:=fun p ai=>fl p.2 (by simp only[an,Op.operands];rw[<- Array.mem_toList_iff];simp only[List.mem_map];exact⟨p,ai,rfl⟩);have e:(lP.toList.map fun p=>(p.1,ga qk p.2))=lP.toList.map fun p=>(p.1,ga E p.2):=arE fun p nX=>(by rw[ai p nX]);rw[<- e];exact h
 | call c =>
  obtain⟨Mr,args,p4⟩:=c
  cases Mr with
  | builtin b =>
   cases b<;>first
    | (simp only[gf,an] at h ⊢
       have e:args.toList.map (ga qk)=args.toList.map (ga E):=arE fun x U=>fl x (by simp only[an,Op.operands,Call.operands];simpa using U);rw[<- e];split at h
       ·exact h
       ·split at h
        ·rename_i row eP;rw[ee _ row eP];exact h
        simp at h
       ·exact h
       ·exact h
       simp at h)
    | simp[gf,an] at h
  | value f=>simp[gf,an] at h
  | invoke r m=>simp[gf,an] at h
 | _=>simp[gf,an] at h
theorem WQ {a7 jH:Nat->Option (List aR)}(ee:∀r row,jH r=some row->a7 r=some row){sz:Nat}{x:aA}{hg:f8}{z:List (List aA)×List Prop}(h:vD sz jH hg x=some z):vD sz a7 hg x=some z:=by
 cases x with
 | bw r k cj len =>
  simp only[vD] at h ⊢;split at h
  ·rename_i al cf bC;rw[O2 ee bC];exact h
  simp at h
 | _=>exact h
theorem Wp {P:Program}{a7 jH:Nat->Option (List aR)}(ee:∀r row,jH r=some row->a7 r=some row){sz:Nat}{z:List aA}{t cW:TypeId}{x:aA}{hg:f8}{y:List (List aA)×List Prop}(h:AZ P sz z jH hg t cW x=some y):AZ P sz z a7 hg t cW x=some y:=by
 unfold AZ at h ⊢;split at h
 ·rename_i e;rw[dz e];exact WQ ee h
 rename_i e;rw[dB e];exact h
theorem ajv {P:Program}{E qk:Nat->aA}{a7 jH:Nat->Option (List aR)}{a8:Nat}{b:Builtin}{args:List aA}{p4:List TypeId}{dV:f8}{bM:jX}
 (ee : ∀r row,jH r=some row->a7 r=some row) (h:rf P qk jH a8 b args p4 dV=some bM):rf P E a7 a8 b args p4 dV=some bM:=by
 unfold rf at h ⊢;split at h
 ·split at h
  ·simp at h
  split at h;rotate_left
  ·simp at h
  split at h
  ·simp at h
  rename_i a1;rw[dB a1];split at h
  ·simp at h
  rename_i bW cf vJ;rw[Wp ee vJ];simp only;split at h
  ·exact h
  ·split at h
   ·simp at h
   rename_i row eP;rw[ee _ row eP];exact h
  simp at h
 ·split at h
  ·simp at h
  split at h;rotate_left
  ·simp at h
  split at h
  ·simp at h
  rename_i a1;rw[dB a1];split at h
  ·simp at h
  rename_i bW cf vJ;rw[Wp ee vJ];simp only;split at h
  ·split at h
   ·simp at h
   rename_i row eP;rw[ee _ row eP];exact h
  simp at h
 ·split at h
  ·simp at h
  split at h
  ·simp at h
  split at h
  ·simp at h
  rename_i bW cf vJ;rw[WQ ee vJ];simp only;split at h
  ·simp at h
  rename_i row eP;rw[ee _ row eP];exact h
 ·split at h
  ·simp at h
  split at h
  ·split at h
   ·simp at h
   rename_i row eP;rw[ee _ row eP];exact h
  simp at h
 ·exact h
 simp at h
theorem ajw {P:Program}{E qk:Nat->aA}{a7 jH:Nat->Option (List aR)}{a8:Nat}{o:Oper}{dV:f8}{bM:jX}
 (fl : ∀x∈o.op.operands,ga qk x=ga E x) (ee : ∀r row,jH r=some row->a7 r=some row) (h:Fv P qk jH a8 o dV=some bM):Fv P E a7 a8 o dV=some bM:=by
 unfold Fv at h ⊢;split at h
 ·rename_i b args p4 an
  split at h
  ·exact K8 fl ee h
  have e:args.toList.map (ga qk)=args.toList.map (ga E):=arE fun x U=>fl x (by simp only[an,Op.operands,Call.operands];simpa using U);rw[<- e];exact ajv ee h
 ·rename_i op t x y cW an
  have j1:=fl x (by simp[an,Op.operands]);have kZ:=fl y (by simp[an,Op.operands]);rw[<- j1,<- kZ];split at h
  ·exact h
  ·exact h
  ·exact h
  ·exact h
  ·exact h
  ·exact h
  ·simp at h
  exact K8 fl ee h
 ·rename_i x an
  have j1:=fl x (by simp[an,Op.operands]);rw[<- j1];split at h
  ·exact h
  ·simp at h
  exact K8 fl ee h
 exact K8 fl ee h
theorem Aq {P:Program}{s cg:S}{a8:Nat}{o:Oper}{dV:f8}{bM:jX}
 (fl : ∀x∈o.op.operands,ga cg.E x=ga s.E x) (ee : ∀r row,cg.a7 r=some row->s.a7 r=some row) (ak:E1 P cg a8 o dV=some bM):E1 P s a8 o dV=some bM:=by
 unfold E1 at ak ⊢;split at ak
 ·rename_i c1
  split at ak
  ·rename_i f args qj an
   simp only[an] at ak fl ⊢;have cp:=fl f (by simp[Op.operands,Call.operands]);have bH:args.toList.map (ga cg.E)=args.toList.map (ga s.E):=arE fun x U=>fl x (by simp only[Op.operands,Call.operands];simp only[Array.mem_append];right;simpa using U);rw[cp,bH] at ak;split at ak
   ·exact ahG ee ak
   simp at ak
  simp at ak
 exact ajw fl ee ak
theorem KS {P:Program}{a8:Nat}{o:Oper}: ∀(dV:f8) (s cg:S) (bM:jX),(∀x∈o.op.operands,ga cg.E x=ga s.E x)->(∀r row,cg.a7 r=some row->s.a7 r=some row) ->
 nr P a8 o dV cg=some bM->nr P a8 o dV s=some bM
 | .gb t v hg,s,cg,bM,fl,ee,h=>by
  unfold nr at h ⊢;split at h;rotate_left
  ·simp at h
  rename_i kN;rw[dz kN]
  have o3:Operand.tmp t∈o.op.operands:=by
   unfold Y5 at kN;rw[List.any_eq_true] at kN;obtain⟨x,U,a0⟩:=kN
   cases x with
   | tmp u =>
    have:u=t:=(by simpa using a0);subst this;simpa using U
   | _=>simp at a0
  have het:cg.E t=s.E t:=fl _ o3;split at h
  ·rename_i r ak
   have:=KS hg {E:=fun u=>if u=t then v else s.E u,a7:=s.a7} {E:=fun u=>if u=t then v else cg.E u,a7:=cg.a7} r (fun x U=>by
    cases x with
    | tmp u =>
     show (if u=t then v else cg.E u)=(if u=t then v else s.E u);split
     ·rfl
     exact fl (.tmp u) U
    | _=>rfl) ee ak
   rw[this];simp only;rw[<- het];exact h
  simp at h
 | .w2 r hg,s,cg,bM,fl,ee,h=>by
  unfold nr at h ⊢;split at h
  ·rename_i row eP
   rw[ee r row eP];simp only;split at h
   ·rename_i tb ak
    have:=KS hg (s.setRow r (oX row)) (cg.setRow r (oX row)) tb fl (fun q e8 a0=>by
     simp only[S.setRow] at a0 ⊢;split at a0
     ·rename_i e;rw[dz e];exact a0
     rename_i e;rw[dB e];exact ee q e8 a0) ak
    rw[this];exact h
   simp at h
  simp at h
 | .v7 r n hg,s,cg,bM,fl,ee,h=>by
  unfold nr at h ⊢;split at h
  ·rename_i tb ak;rw[KS hg s cg tb fl ee ak];exact agp ee h
  simp at h
 | .none,s,cg,bM,fl,ee,h=>by unfold nr at h ⊢;exact Aq fl ee h
 | .qK b,s,cg,bM,fl,ee,h=>by unfold nr at h ⊢;exact Aq fl ee h
 | .cn c,s,cg,bM,fl,ee,h=>by unfold nr at h ⊢;exact Aq fl ee h
 | .hp al c,s,cg,bM,fl,ee,h=>by unfold nr at h ⊢;exact Aq fl ee h
 | .eA,s,cg,bM,fl,ee,h=>by unfold nr at h ⊢;exact Aq fl ee h
 | .call c,s,cg,bM,fl,ee,h=>by unfold nr at h ⊢;exact Aq fl ee h
 | .aw m cD,s,cg,bM,fl,ee,h=>by unfold nr at h ⊢;exact Aq fl ee h
def tmpsOf (o:Oper):List Nat:=o.op.operands.toList.filterMap fun | .tmp t=>some t|_=>none
def ali:aA->List Nat
 | .ref r _ _ _=>[r]
 | .bw r _ _ _=>[r]
 | .k8 r _ _ _=>[r]
 | _=>[]
def rV (ops:Array Oper)(o:Oper):List Nat :=
 tmpsOf o++(match o.guard with
  | some (j,_)=>((ops[j]?).bind (·.dst)).toList
  | none=>[])
def FA (s:S)(o:Oper):f8->List Nat
 | .call c1=>c1.en
 | .gb t v hg=>FA {E:=fun u=>if u=t then v else s.E u,a7:=s.a7} o hg
 | .w2 r hg=>r::FA s o hg
 | .v7 r _ hg=>r::FA s o hg
 | _=>match o.op with
  | .move _=>[]
  | _=>(tmpsOf o).flatMap fun t=>ali (s.E t)
def S.only (s:S)(qj lR:List Nat):S:={E:=fun t=>if qj.contains t then s.E t else .dead,a7:=fun r=>if lR.contains r then s.a7 r else none}
theorem OU {P:Program}{N:Nat}{ops:Array Oper}{s:S}{a8:Nat}{o:Oper}{hg:f8×Bool}{bM:jX}{lR:List Nat}
 (h:uT P N ops (s.only (rV ops o) lR) a8 o hg=some bM):uT P N ops s a8 o hg=some bM:=by
 have fl : ∀x∈o.op.operands,ga (s.only (rV ops o) lR).E x=ga s.E x:=by
  intro x U
  cases x with
  | tmp t =>
   have:t∈rV ops o:=(by unfold rV;rw[List.mem_append];left;unfold tmpsOf;rw[List.mem_filterMap];exact⟨.tmp t,by simpa using U,rfl⟩);simp[ga,S.only,this]
  | _=>rfl
 have ee : ∀r row,(s.only (rV ops o) lR).a7 r=some row->s.a7 r=some row:=by
  intro r row ak;simp only[S.only] at ak;split at ak
  ·exact ak
  simp at ak
 have h0 : ∀r,LI P (s.only (rV ops o) lR) a8 o hg.1=some r->LI P s a8 o hg.1=some r:=fun r ak=>KS hg.1 s _ r fl ee ak
 have h1 : ∀r,xF P (s.only (rV ops o) lR) a8 o hg.1=some r->xF P s a8 o hg.1=some r:=by
  intro r ak;unfold xF at ak ⊢;split at ak;rotate_left
  ·simp at ak
  rename_i fN jQ;rw[h0 fN jQ];simp only;split at ak
  ·rename_i a1
   rw[dz]
   ·exact ak
   rw[List.all_eq_true] at a1 ⊢;intro p ai;have:=a1 p ai;simp only[Bool.or_eq_true,decide_eq_true_eq] at this ⊢;rcases this with e|e
   ·exact .inl e
   right
   cases a0:(s.only (rV ops o) lR).a7 p.1 with
   | none=>rw[a0] at e;simp at e
   | some row=>rw[ee _ row a0];rfl
  simp at ak
 unfold uT at h ⊢;split at h
 ·simp at h
 rename_i IC;rw[dB IC];split at h
 ·exact h1 _ h
 rename_i j want d6;split at h
 ·simp at h
 rename_i d bI;have o3:d∈rV ops o:=by unfold rV;rw[List.mem_append];right;simp[d6,bI]
 have he:(s.only (rV ops o) lR).E d=s.E d:=by simp[S.only,o3]
 rw[he] at h;split at h
 ·split at h
  ·rename_i aO
   rw[dz aO];split at h
   ·rename_i r ak;rw[h1 r ak];exact h
   simp at h
  rename_i aO;rw[dB aO];exact h
 ·exact h
 simp at h
structure Rec where
 o:Oper
 hg:f8×Bool
 qj:List Nat
 lR:List Nat
 bM:jX
def uM (P:Program)(N:Nat)(ops:Array Oper):List Oper->List (f8×Bool)->S->Nat->Option (S×List Rec)
 | [],[],s,_=>some (s,[])
 | o::l,hg::dV,s,a8 =>
  match uT P N ops (s.only (rV ops o) (a8::FA s o hg.1)) a8 o hg with
  | some bM=>match uM P N ops l dV (s.aw o bM) (a8+1) with
   | some (cg,rec)=>some (cg,⟨o,hg,rV ops o,a8::FA s o hg.1,bM⟩::rec)
   | none=>none
  | none=>none
 | _,_,_,_=>none
def meets (a b:List Nat):Bool:=a.any fun x=>b.contains x
def tS (x y:Rec):Bool :=
 meets x.o.dst.toList (y.qj++y.o.dst.toList) || meets x.qj y.o.dst.toList ||
 meets (x.bM.hN.map (·.1)) (y.lR++y.bM.hN.map (·.1)) || meets x.lR (y.bM.hN.map (·.1))
def S.nQ (s:S):Nat⊕Nat->aA⊕Option (List aR)
 | .inl t=> .inl (s.E t)
 | .inr r=> .inr (s.a7 r)
theorem S.Y6 {s cg:S}(h:∀L,s.nQ L=cg.nQ L):s=cg:=by
 obtain⟨E,a7⟩:=s;obtain⟨qk,jH⟩:=cg;have h1:E=qk:=funext fun t=>by have:=h (.inl t);simpa [S.nQ] using this
 have h2:a7=jH:=funext fun r=>by have:=h (.inr r);simpa [S.nQ] using this
 rw[h1,h2]
def tE:List (Nat×List aR)->Nat->Option (List aR)
 | [],_=>none
 | (r,row)::u,q=>match tE u q with
  | some x=>some x
  | none=>if r=q then some row else none
theorem Xk : ∀(u:List (Nat×List aR)) (s:S) (q:Nat),(s.ko u).a7 q=match tE u q with|some x=>some x|none=>s.a7 q
 | [],s,q=>rfl
 | (r,row)::u,s,q=>by
  show ((s.setRow r row).ko u).a7 q=_;rw[Xk u (s.setRow r row) q];simp only[tE]
  cases tE u q with
  | some x=>rfl
  | none =>
   simp only[S.setRow];by_cases h:r=q
   ·subst h;simp
   rw[dB (Ne.symm h),dB h]
theorem Hk : ∀(u:List (Nat×List aR)) (q:Nat),tE u q≠none->q∈u.map (·.1)
 | [],q,h=>by simp[tE] at h
 | (r,row)::u,q,h=>by
  simp only[tE] at h
  cases a0:tE u q with
  | some x=>simp[Hk u q (by rw[a0];simp)]
  | none =>
   rw[a0] at h;simp only at h;by_cases e:r=q
   ·simp[e]
   rw[dB e] at h;simp at h
def p9 (x:Rec):Nat⊕Nat->Option (aA⊕Option (List aR))
 | .inl t=>if x.o.dst=some t then some (.inl x.bM.val) else none
 | .inr r=>(tE x.bM.hN r).map fun row=> .inr (some row)
theorem HY (s:S)(x:Rec)(L:Nat⊕Nat):(s.aw x.o x.bM).nQ L=(p9 x L).getD (s.nQ L):=by
 cases L with
 | inl t =>
  simp only[S.nQ,p9,S.aw]
  cases bI:x.o.dst with
  | none=>simp[S.put,HX]
  | some d =>
   simp only[S.put,dA];by_cases h:t=d
   ·subst h;simp
   rw[dB h,dB (Ne.symm h),HX];rfl
 | inr r =>
  simp only[S.nQ,p9,S.aw,S.yY];rw[Xk];cases tE x.bM.hN r<;>rfl
def jN:List Rec->(Nat->Bool)->Nat->S->S
 | [],_,_,s=>s
 | x::l,f,n,s=>jN l f (n+1) (if f n then s.aw x.o x.bM else s)
theorem OK (L:Nat⊕Nat): ∀(l:List Rec) (f ml:Nat->Bool) (n:Nat) (s cg:S),s.nQ L=cg.nQ L ->
 (∀(i:Nat) x,l[i]? = some x->p9 x L≠none->f (n+i)=ml (n+i))->(jN l f n s).nQ L=(jN l ml n cg).nQ L
 | [],_,_,_,_,_,h,_=>h
 | x::l,f,ml,n,s,cg,h,cp=>by
  simp only[jN];refine OK L l f ml (n+1) _ _ ?_ fun i y aY he=>by have:=cp (i+1) y (by simpa using aY) he;rw[show n+1+i=n+(i+1) by omega];exact this
  cases he:p9 x L with
  | none =>
   have e : ∀(b:Bool) (s:S),(if b then s.aw x.o x.bM else s).nQ L=s.nQ L:=by
    intro b s;cases b
    ·rfl
    simp[HY,he]
   rw[e,e,h]
  | some c =>
   have:=cp 0 x rfl (by rw[he];simp);simp only[Nat.add_zero] at this;rw[this];cases ml n
   ·exact h
   simp[HY,he]
theorem WR (L:Nat⊕Nat): ∀(l:List Rec) (f:Nat->Bool) (n:Nat) (s:S),(∀(i:Nat) x,l[i]? = some x->f (n+i)=true->p9 x L=none)->(jN l f n s).nQ L=s.nQ L
 | [],_,_,_,_=>rfl
 | x::l,f,n,s,h=>by
  simp only[jN];rw[WR L l f (n+1) _ fun i y aY cp=>h (i+1) y (by simpa using aY) (by rw[show n+(i+1)=n+1+i by omega];exact cp)];cases cp:f n
  ·rfl
  have:=h 0 x rfl (by simpa using cp);simp[HY,this]
theorem WS (L:Nat⊕Nat): ∀(l:List Rec) (f:Nat->Bool) (n j:Nat) (s:S) (x:Rec) (c:aA⊕Option (List aR)),l[j]? = some x->f (n+j)=true->p9 x L=some c ->
 (∀(i:Nat) y,l[i]? = some y->j<i->f (n+i)=true->p9 y L=none)->(jN l f n s).nQ L=c
 | [],_,_,_,_,_,_,h,_,_,_=>by simp at h
 | y::l,f,n,0,s,x,c,h,cp,he,a4=>by simp at h;subst h;simp only[jN];rw[WR L l f (n+1) _ fun i z cK hfz=>a4 (i+1) z (by simpa using cK) (by omega) (by rw[show n+(i+1)=n+1+i by omega];exact hfz)];simp only[Nat.add_zero] at cp;simp[cp,HY,he]
 | y::l,f,n,j+1,s,x,c,h,cp,he,a4=>by
  simp only[jN]
  exact WS L l f (n+1) j _ x c (by simpa using h) (by rw[show n+1+j=n+(j+1) by omega];exact cp) he fun i z cK u5 hfz =>
   a4 (i+1) z (by simpa using cK) (by omega) (by rw[show n+(i+1)=n+1+i by omega];exact hfz)
theorem Hl : ∀(l:List Rec) (f ml:Nat->Bool) (n:Nat) (s:S),(∀i,i<l.length->f (n+i)=ml (n+i))->jN l f n s=jN l ml n s
 | [],_,_,_,_,_=>rfl
 | x::l,f,ml,n,s,h=>by simp only[jN];have h0:=h 0 (by simp);simp only[Nat.add_zero] at h0;rw[h0];exact Hl l f ml (n+1) _ fun i aa=>by rw[show n+1+i=n+(i+1) by omega];exact h (i+1) (by simpa using aa)
theorem Wq {P:Program}{N:Nat}{ops:Array Oper}: ∀(l:List Oper) (dV:List (f8×Bool)) (s cg:S) (a8:Nat) (lR:List Rec),uM P N ops l dV s a8=some (cg,lR)->s.nk a8 ->
 lR.length=l.length/\cg=jN lR (fun _=>true) 0 s/\ ∀(i:Nat) x,lR[i]? = some x->l[i]? = some x.o/\x.qj=rV ops x.o /\
  a8+i∈x.lR/\uT P N ops ((jN (lR.take i) (fun _=>true) 0 s).only x.qj x.lR) (a8+i) x.o x.hg=some x.bM/\(jN (lR.take i) (fun _=>true) 0 s).nk (a8+i)
 | [],[],s,cg,a8,lR,h,cp=>by simp[uM] at h;obtain⟨rfl,rfl⟩:=h;exact⟨rfl,rfl,fun i x U=>by simp at U⟩
 | o::l,hg::dV,s,cg,a8,lR,h,cp=>by
  simp only[uM] at h;split at h;rotate_left
  ·simp at h
  rename_i bM ay;split at h;rotate_left
  ·simp at h
  rename_i s2 Q2 h2;simp only[dA,dF] at h;obtain⟨rfl,rfl⟩:=h
  have IY : ∀(l:List Rec) (n:Nat) (s:S),jN l (fun _=>true) (n+1) s=jN l (fun _=>true) n s:=by
   intro l
   induction l with
   | nil=>intro n s;rfl
   | cons x l ih=>intro n s;simp only[jN];exact ih (n+1) _
  obtain⟨e1,e2,bG⟩:=Wq l dV (s.aw o bM) s2 (a8+1) Q2 h2 (KR (OU ay) cp);refine⟨by simp[e1],?_,fun i x U=> ?_⟩
  ·simp only[jN,if_true];rw[IY];exact e2
  cases i with
  | zero =>
   simp at U;subst U;exact⟨rfl,rfl,by simp,ay,cp⟩
  | succ i =>
   simp at U;obtain⟨f1,f2,f0,f3,f4⟩:=bG i x U;have e:jN ((⟨o,hg,rV ops o,a8::FA s o hg.1,bM⟩::Q2).take (i+1)) (fun _=>true) 0 s=jN (Q2.take i) (fun _=>true) 0 (s.aw o bM):=(by simp only[List.take_succ_cons,jN,if_true];rw[IY]);rw[e,show a8+(i+1)=a8+1+i by omega];exact⟨by simpa using f1,f2,f0,f3,f4⟩
 | [],_::_,_,_,_,_,h,_=>by simp[uM] at h
 | _::_,[],_,_,_,_,h,_=>by simp[uM] at h
inductive u6 (ops:Array Oper):Nat->Nat->Prop
 | one {i j:Nat} {o:Oper} {e:Edge} (an:ops[j]? = some o) (he:e∈o.after) (aO:Region.binds .any e=true) (h:e.on=i):u6 ops i j
 | step {i j k:Nat} {o:Oper} {e:Edge} (an:ops[j]? = some o) (he:e∈o.after) (aO:Region.binds .any e=true) (h:e.on=k) (a4:u6 ops i k):u6 ops i j
def H9:List Oper->List Nat->List Nat
 | [],acc=>acc
 | o::l,acc=>H9 l (acc++[o.after.toList.foldl (fun m e=>if Region.binds .any e then m ||| (1 <<< e.on) ||| (acc.getD e.on 0) else m) 0])
theorem Xl {ops:Array Oper}{j:Nat}{o:Oper}(an:ops[j]? = some o){acc:List Nat}(Z5:∀k i,(acc.getD k 0).testBit i=true->u6 ops i k): ∀(es:List Edge) (m:Nat),(∀e∈es,e∈o.after) ->
 (∀i,m.testBit i=true->u6 ops i j)-> ∀i,(es.foldl (fun m e=>if Region.binds .any e then m ||| (1 <<< e.on) ||| (acc.getD e.on 0) else m) m).testBit i=true->u6 ops i j
 | [],m,_,hm,i,h=>hm i h
 | e::es,m,jP,hm,i,h=>by
  simp only[List.foldl_cons] at h;refine Xl an Z5 es _ (fun fA o2=>jP fA (by simp[o2])) ?_ i h;intro i aa;split at aa
  ·rename_i aO
   rw[Nat.testBit_or,Nat.testBit_or,Bool.or_eq_true,Bool.or_eq_true] at aa;rcases aa with (aa|aa)|aa
   ·exact hm i aa
   ·rw[Nat.testBit_shiftLeft] at aa
    simp only[dO,decide_eq_true_eq] at aa
    have:i-e.on=0:=by
     have:=aa.2;rcases Nat.eq_zero_or_pos (i-e.on) with h0|h0
     ·exact h0
     rw[Nat.testBit_one_eq_true_iff_self_eq_zero] at this;exact this
    exact .one an (jP e (by simp)) aO (by omega)
   exact .step an (jP e (by simp)) aO rfl (Z5 _ _ aa)
  exact hm i aa
theorem Xm {ops:Array Oper}: ∀(l:List Oper) (acc:List Nat),(∀(i:Nat) o,l[i]? = some o->ops[acc.length+i]? = some o)->(∀k i,(acc.getD k 0).testBit i=true->u6 ops i k) ->
 ∀k i,((H9 l acc).getD k 0).testBit i=true->u6 ops i k
 | [],acc,_,h,k,i,a4=>h k i a4
 | o::l,acc,aZ,h,k,i,a4=>by
  simp only[H9] at a4;refine Xm l _ (fun i cD fj=>by have:=aZ (i+1) cD (by simpa using fj);simp only[dD,dI,dQ];rw[show acc.length+(0+1)+i=acc.length+(i+1) by omega];exact this) ?_ k i a4;intro k i a4;rw[dN,List.getElem?_append] at a4;split at a4
  ·exact h k i (by rw[dN];exact a4)
  rename_i eS;by_cases e:k=acc.length
  ·subst e;simp only[Nat.sub_self,List.getElem?_cons_zero,Option.getD_some] at a4;exact Xl (aZ 0 o rfl) h _ 0 (fun e he=>by simpa using he) (fun i aa=>by simp at aa) i a4
  rw[dT (by simp;omega)] at a4;simp at a4
def HK (m:Nat)(y:Rec):List Rec->Nat->Bool
 | [],_=>true
 | x::l,i=>(!tS x y || m.testBit i) && HK m y l (i+1)
def LX (js:List Rec):List Rec->List Nat->Nat->Bool
 | [],_,_=>true
 | y::l,ha,j=>HK (ha.headD 0) y (js.take j) 0 && y.o.after.toList.all (fun e=> !Region.binds .any e || decide (e.on<j)) && LX js l ha.tail (j+1)
theorem WT {m:Nat}{y:Rec}: ∀(l:List Rec) (n:Nat),HK m y l n=true-> ∀(i:Nat) x,l[i]? = some x->tS x y=true->m.testBit (n+i)=true
 | [],_,_,i,x,U,_=>by simp at U
 | z::l,n,h,i,x,U,a1=>by
  simp only[HK,dO,Bool.or_eq_true,Bool.not_eq_true'] at h
  cases i with
  | zero =>
   simp at U;subst U;rcases h.1 with e|e
   ·rw[e] at a1;simp at a1
   simpa using e
  | succ i =>
   have:=WT l (n+1) h.2 i x (by simpa using U) a1;rw[show n+(i+1)=n+1+i by omega];exact this
theorem XR {js:List Rec}: ∀(l:List Rec) (ha:List Nat) (j:Nat),LX js l ha j=true-> ∀(i:Nat) y,l[i]? = some y ->
 HK (ha.getD i 0) y (js.take (j+i)) 0=true/\ ∀e∈y.o.after,Region.binds .any e=true->e.on<j+i
 | [],_,_,_,i,y,aY=>by simp at aY
 | z::l,ha,j,h,i,y,aY=>by
  simp only[LX,dO] at h
  cases i with
  | zero =>
   simp at aY;subst aY;refine⟨?_,fun e he aO=> ?_⟩
   ·have:ha.getD 0 0=ha.headD 0:=(by cases ha<;>rfl);rw[this];exact h.1.1
   have:=List.all_eq_true.1 h.1.2 e (by simpa using he);simpa [aO] using this
  | succ i =>
   obtain⟨e1,e2⟩:=XR l ha.tail (j+1) h.2 i y (by simpa using aY);refine⟨?_,fun e he aO=> ?_⟩
   ·have:ha.getD (i+1) 0=ha.tail.getD i 0:=(by cases ha<;>rfl);rw[this,show j+(i+1)=j+1+i by omega];exact e1
   have:=e2 e he aO;omega
theorem EC {a b:List Nat}{x:Nat}(bH:x∈a)(aO:x∈b):meets a b=true:=by unfold meets;rw[List.any_eq_true];exact⟨x,bH,by simpa using aO⟩
theorem aha {x y:Rec}(h:tS x y=false){L:Nat⊕Nat}(U:p9 x L≠none):p9 y L=none:=by
 simp only[tS,Bool.or_eq_false_iff] at h
 cases L with
 | inl t =>
  simp only[p9] at U ⊢;by_cases h1:x.o.dst=some t
  ·by_cases h2:y.o.dst=some t
   ·have:=EC (a:=x.o.dst.toList) (b:=y.qj++y.o.dst.toList) (x:=t) (by simp[h1]) (by simp[h2]);rw[h.1.1.1] at this;simp at this
   simp[h2]
  simp[h1] at U
 | inr r =>
  simp only[p9] at U ⊢
  cases h2:tE y.bM.hN r with
  | none=>rfl
  | some row =>
   have jS:r∈x.bM.hN.map (·.1):=Hk _ _ (by intro e;simp[e] at U);have iV:r∈y.bM.hN.map (·.1):=Hk _ _ (by rw[h2];simp);have:=EC jS (b:=y.lR++y.bM.hN.map (·.1)) (by simp only[List.mem_append];exact .inr iV);rw[h.1.2] at this;simp at this
def Rec.Mb (x:Rec):Nat⊕Nat->Prop
 | .inl t=>t∈x.qj
 | .inr r=>r∈x.lR
theorem ahb {x y:Rec}(h:tS x y=false){L:Nat⊕Nat}(aY:y.Mb L):p9 x L=none:=by
 simp only[tS,Bool.or_eq_false_iff] at h
 cases L with
 | inl t =>
  simp only[p9];by_cases h1:x.o.dst=some t
  ·have:=EC (a:=x.o.dst.toList) (b:=y.qj++y.o.dst.toList) (x:=t) (by simp[h1]) (by simp only[List.mem_append];exact .inl aY);rw[h.1.1.1] at this;simp at this
  simp[h1]
 | inr r =>
  simp only[p9]
  cases h2:tE x.bM.hN r with
  | none=>rfl
  | some row =>
   have jS:r∈x.bM.hN.map (·.1):=Hk _ _ (by rw[h2];simp);have:=EC jS (b:=y.lR++y.bM.hN.map (·.1)) (by simp only[List.mem_append];exact .inl aY);rw[h.1.2] at this;simp at this
theorem ahc {x y:Rec}(h:tS x y=false){L:Nat⊕Nat}(U:x.Mb L):p9 y L=none:=by
 simp only[tS,Bool.or_eq_false_iff] at h
 cases L with
 | inl t =>
  simp only[p9];by_cases h1:y.o.dst=some t
  ·have:=EC (a:=x.qj) (b:=y.o.dst.toList) (x:=t) U (by simp[h1]);rw[h.1.1.2] at this;simp at this
  simp[h1]
 | inr r =>
  simp only[p9]
  cases h2:tE y.bM.hN r with
  | none=>rfl
  | some row =>
   have jS:r∈y.bM.hN.map (·.1):=Hk _ _ (by rw[h2];simp);have:=EC (a:=x.lR) U jS;rw[h.2] at this;simp at this
theorem ahI {s cg:S}{x:Rec}(h:∀L,x.Mb L->s.nQ L=cg.nQ L):s.only x.qj x.lR=cg.only x.qj x.lR:=by
 apply S.Y6;intro L
 cases L with
 | inl t =>
  simp only[S.nQ,S.only];by_cases cv:t∈x.qj
  ·have:=h (.inl t) cv;simp only[S.nQ,Sum.inl.injEq] at this;simp[cv,this]
  simp[cv]
 | inr r =>
  simp only[S.nQ,S.only];by_cases ak:r∈x.lR
  ·have:=h (.inr r) ak;simp only[S.nQ,Sum.inr.injEq] at this;simp[ak,this]
  simp[ak]
theorem WU : ∀(l:List Rec) (i n:Nat) (s:S),jN (l.take i) (fun _=>true) n s=jN l (fun k=>decide (k<n+i)) n s
 | [],i,n,s=>by simp[jN]
 | x::l,0,n,s=>by
  simp only[List.take_zero,jN,Nat.add_zero];rw[dB (by simp)];have:=Hl l (fun k=>decide (k<n)) (fun _=>false) (n+1) s (fun i _=>by simp;omega);rw[this]
  have cK : ∀(l:List Rec) (n:Nat),jN l (fun _=>false) n s=s:=by
   intro l
   induction l with
   | nil=>intro n;rfl
   | cons x l ih=>intro n;simp only[jN,arA,if_false];exact ih _
  rw[cK]
 | x::l,i+1,n,s=>by simp only[List.take_succ_cons,jN,if_true];rw[dz (by simp),WU l i (n+1)];exact Hl l _ _ (n+1) _ fun j _=>by congr 1;apply propext;omega
def Aw (l:List Bool):Nat:=l.countP (fun b=> !b)
section
variable {P:Program} {ops:Array Oper} {Q:Exit->Act->World->Prop} {g:G} {lS:S} {na:Nat} {js:List Rec}
theorem KX {h7:Array Bool}(gh:h7.size=ops.size){i:Nat}:i∈Region.ready .any ops h7↔i<ops.size/\h7.getD i false=false/\ ∀o,ops[i]? = some o-> ∀e∈o.after,Region.binds .any e=true->h7.getD e.on false=true:=by
 unfold Region.ready;rw[List.mem_filter,List.mem_range];constructor
 ·rintro⟨h1,h2⟩
  simp only[dO,Bool.not_eq_true'] at h2;have aZ:i<h7.size:=(by omega);refine⟨h1,?_,fun o an e he aO=> ?_⟩
  ·have:=h2.1;rw[ary,aro aZ] at this ⊢;simpa using this
  have R:=h2.2;rw[an] at R;simp only[arq,Option.getD_some] at R;rw[Array.all_eq_true_iff_forall_mem] at R;have:=R e he;simpa [aO] using this
 rintro⟨h1,h2,R⟩;refine⟨h1,?_⟩;have aZ:i<h7.size:=by omega
 have an:ops[i]? = some ops[i]:=aro h1;simp only[dO,Bool.not_eq_true'];refine⟨?_,?_⟩
 ·rw[ary,aro aZ] at h2 ⊢;simpa using h2
 rw[an];simp only[arq,Option.getD_some];rw[Array.all_eq_true_iff_forall_mem];intro e he
 cases aO:Region.binds .any e with
 | false=>rfl
 | true=>simp[R _ an e he aO]
theorem aiq (hlen:js.length=ops.size) (ID : ∀(i:Nat) x,js[i]? = some x->ops[i]? = some x.o/\x.qj=rV ops x.o/\na+i∈x.lR /\
 uT P g.N ops ((jN (js.take i) (fun _=>true) 0 lS).only x.qj x.lR) (na+i) x.o x.hg=some x.bM/\(jN (js.take i) (fun _=>true) 0 lS).nk (na+i))
 (da : ∀x∈js,∀p∈x.bM.gV,p)
 (Mc : ∀(i j:Nat) x y,i<j->js[i]? = some x->js[j]? = some y->tS x y=true->u6 ops i j)
 (H8 : ∀(i:Nat) o,ops[i]? = some o-> ∀e∈o.after,Region.binds .any e=true->e.on<i)
 (zE : ∀cc eK b5,dZ g (jN js (fun _=>true) 0 lS) cc eK b5->Q .normal eK b5) :
 ∀(tT:Nat) (h7:Array Bool) (aD:g9) (a:Act) (w:World),h7.size=ops.size->Aw h7.toList<=tT ->
  (∀i j,h7.getD j false=true->u6 ops i j->h7.getD i false=true) ->
  dZ g (jN js (fun i=>h7.getD i false) 0 lS) aD a w->wpAny P .any ops Q tT h7 a w:=by
 have ZK : ∀(h7:Array Bool) (aD:g9) (a:Act) (w:World),h7.size=ops.size->Region.ready .any ops h7=[] ->
  dZ g (jN js (fun i=>h7.getD i false) 0 lS) aD a w->Q .normal a w:=by
  intro h7 aD a w gh ak h
  have q9 : ∀i,i<ops.size->h7.getD i false=true:=by
   intro i
   induction i using Nat.strongRecOn with
   | _ i ih =>
    intro aa
    cases aZ:h7.getD i false with
    | true=>rfl
    | false =>
     exfalso;have:i∈Region.ready .any ops h7:=(KX gh).2 ⟨aa,aZ,fun o an e he aO=>by have eS:=H8 i o an e he aO;exact ih e.on eS (by omega)⟩;rw[ak] at this;simp at this
  have e:=Hl js (fun i=>h7.getD i false) (fun _=>true) 0 lS (fun i aa=>by simpa using q9 i (by omega));rw[e] at h;exact zE aD a w h
 have Qa : ∀(h7:Array Bool) (aD:g9) (a:Act) (w:World),h7.size=ops.size->(∀i j,h7.getD j false=true->u6 ops i j->h7.getD i false=true) ->
  dZ g (jN js (fun i=>h7.getD i false) 0 lS) aD a w-> ∀i∈Region.ready .any ops h7,∀K:Act->World->Prop,
  (∀cc eK b5,dZ g (jN js (fun k=>(h7.setIfInBounds i true).getD k false) 0 lS) cc eK b5->K eK b5)->wpOp P ops Q i K a w:=by
  intro h7 aD a w gh Bd h i aa K jI;obtain⟨I8,Mz,aaC⟩:=(KX gh).1 aa;have mi:js[i]? = some (js[i]'(by omega)):=dy _;generalize js[i]'(by omega)=x at mi;obtain⟨r1,r2,r0,aX,bb⟩:=ID i x mi
  have Qs : ∀j,u6 ops j i->h7.getD j false=true:=by
   intro j ap
   cases ap with
   | one an he aO tX =>
    rw[r1] at an;simp at an;subst an;rw[<- tX];exact aaC _ r1 _ he aO
   | step an he aO tX a4 =>
    rw[r1] at an;simp at an;subst an;have:=aaC _ r1 _ he aO;rw[tX] at this;exact Bd _ _ this a4
  have eS : ∀j y,js[j]? = some y->j<i->h7.getD j false=false->tS y x=false:=by
   intro j y aY u5 cp
   cases a1:tS y x with
   | false=>rfl
   | true=>have:=Qs j (Mc j i y x u5 aY mi a1);rw[cp] at this;simp at this
  have MA : ∀j y,js[j]? = some y->i<j->h7.getD j false=true->tS x y=false:=by
   intro j y aY sE cp
   cases a1:tS x y with
   | false=>rfl
   | true=>have:=Bd i j cp (Mc i j x y sE mi aY a1);rw[Mz] at this;simp at this
  have Z6 : ∀L,x.Mb L->(jN (js.take i) (fun _=>true) 0 lS).nQ L=(jN js (fun i=>h7.getD i false) 0 lS).nQ L:=by
   intro L r9;rw[WU];refine OK L js _ _ 0 lS lS rfl fun j y aY he=> ?_;simp only[dG];rcases Nat.lt_trichotomy j i with u5|u5|u5
   ·cases cp:h7.getD j false with
    | true=>simpa using u5
    | false=>exact absurd (ahb (eS j y aY u5 cp) r9) he
   ·subst u5;simpa using Mz.symm
   cases cp:h7.getD j false with
   | false=>simp;omega
   | true=>exact absurd (ahc (MA j y aY u5 cp) r9) he
  have ay:uT P g.N ops (jN js (fun i=>h7.getD i false) 0 lS) (na+i) x.o x.hg=some x.bM:=(by rw[ahI Z6,r2] at aX;exact OU aX);have gi:(jN js (fun i=>h7.getD i false) 0 lS).a7 (na+i)=none:=(by have e1:=Z6 (.inr (na+i)) r0;simp only[S.nQ,Sum.inr.injEq] at e1;rw[<- e1];exact bb _ (dE _));refine Wo h gi r1 ay (da x (dH mi)) fun cc eK b5 dc=>jI cc eK b5 ?_
  have zb : ∀k,(h7.setIfInBounds i true).getD k false=if k=i then true else h7.getD k false:=by
   intro k;simp only[ary,Array.getElem?_setIfInBounds];by_cases e:i=k
   ·subst e;simp[gh,I8]
   rw[dB e,dB (Ne.symm e)]
  have Fp:(jN js (fun i=>h7.getD i false) 0 lS).aw x.o x.bM=jN js (fun k=>(h7.setIfInBounds i true).getD k false) 0 lS:=by
   apply S.Y6;intro L;rw[HY]
   cases he:p9 x L with
   | none =>
    refine OK L js _ _ 0 lS lS rfl fun j y aY I0=> ?_;simp only[dG,zb];by_cases e:j=i
    ·subst e;rw[mi] at aY;simp at aY;subst aY;exact absurd he I0
    rw[dB e]
   | some c =>
    symm
    refine WS L js _ 0 i lS x c mi (by simp[zb]) he fun j y aY sE cp=> ?_;simp only[dG,zb] at cp;rw[dB (by omega)] at cp;exact aha (MA j y aY sE cp) (by rw[he];simp)
  rw[Fp] at dc;exact dc
 intro tT
 induction tT with
 | zero =>
  intro h7 aD a w gh Ix Bd h
  have ak:Region.ready .any ops h7=[]:=by
   cases ak:Region.ready .any ops h7 with
   | nil=>rfl
   | cons i l =>
    exfalso;have aa:i∈Region.ready .any ops h7:=(by rw[ak];simp);obtain⟨h1,h2,-⟩:=(KX gh).1 aa;have h0:Aw h7.toList=0:=(by omega);unfold Aw at h0;rw[List.countP_eq_zero] at h0;have BA:i<h7.size:=(by omega);have:=h0 (h7[i]) (by simp);rw[ary,aro BA] at h2;simp at h2 this;rw[h2] at this;simp at this
  exact⟨ak,ZK h7 aD a w gh ak h⟩
 | succ tT ih =>
  intro h7 aD a w gh Ix Bd h;refine⟨fun ak=>ZK h7 aD a w gh ak h,fun i aa=> ?_⟩;refine Qa h7 aD a w gh Bd h i aa _ fun cc eK b5 dc=> ?_;obtain⟨h1,h2,R⟩:=(KX gh).1 aa;have BA:i<h7.size:=by omega
  have zb : ∀k,(h7.setIfInBounds i true).getD k false=if k=i then true else h7.getD k false:=by
   intro k;simp only[ary,Array.getElem?_setIfInBounds];by_cases e:i=k
   ·subst e;simp[BA]
   rw[dB e,dB (Ne.symm e)]
  refine ih _ cc eK b5 (by simpa using gh) ?_ ?_ dc
  ·have cp:h7[i]=false:=by
    rw[ary,aro BA] at h2;simpa using h2
   have a1:Aw (h7.setIfInBounds i true).toList+1<=Aw h7.toList:=by
    unfold Aw;rw[Array.toList_setIfInBounds]
    have key : ∀(l:List Bool) (i:Nat),l[i]? = some false->(l.set i true).countP (fun b=> !b)+1=l.countP (fun b=> !b):=by
     intro l
     induction l with
     | nil=>intro i aa;simp at aa
     | cons b l ih =>
      intro i aa
      cases i with
      | zero=>simp at aa;subst aa;simp
      | succ i =>
       simp at aa;simp only[List.set_cons_succ,List.countP_cons];have:=ih i aa;omega
    rw[key h7.toList i (by rw[Array.getElem?_toList,aro BA,cp])];exact dE _
   omega
  intro k j ap I9;rw[zb] at ap ⊢;by_cases e:k=i
  ·rw[dz e]
  rw[dB e];by_cases e2:j=i
  ·subst e2
   cases I9 with
   | one an he aO tX=>rw[<- tX];exact R _ an _ he aO
   | step an he aO tX a4 =>
    have:=R _ an _ he aO;rw[tX] at this;exact Bd _ _ this a4
  rw[dB e2] at ap;exact Bd k j ap I9
end
def Hy (P:Program)(N:Nat)(ops:Array Oper)(draw:Bool)(dV:List (f8×Bool))(s:S)(a8:Nat):Option (S×List Prop) :=
 if draw then
  match uM P N ops ops.toList dV s a8 with
  | some (cg,js)=>if LX js js (H9 ops.toList []) 0 then some (cg,js.flatMap (·.bM.gV)) else none
  | none=>none
 else uL P N ops ops.toList dV s a8
theorem afD {P:Program}(tU:P.follows .mixedOrders=true){g:G}{ops:Array Oper}{draw:Bool}{dV:List (f8×Bool)}{s cg:S}{a8:Nat}{al:List Prop}
 (h:Hy P g.N ops draw dV s a8=some (cg,al)) (bC : ∀p∈al,p) (cp:s.nk a8) {aD:g9} {a:Act} {w:World} (ak:dZ g s aD a w) (id:Nat) {Q:Exit->Act->World->Prop}
 (zE : ∀cc eK b5,dZ g cg cc eK b5->Q .normal eK b5):(Code.region id ops draw).wp P Q a w:=by
 unfold Hy at h
 cases draw with
 | false =>
  simp only[arA,if_false] at h;refine wp_region ?_;have:=V9 (Q:=Q) (i:=0) ops.toList dV s cg a8 al (fun j o an=>by simpa using an) h bC cp zE aD a w ak;have e:(List.range ops.toList.length).map (0 + ·)=List.range ops.size:=(by simp);rw[e] at this;exact this
 | true =>
  simp only[if_true] at h;split at h;rotate_left
  ·simp at h
  rename_i s2 js ID;split at h;rotate_left
  ·simp at h
  rename_i Mc;simp only[dA,dF] at h;obtain⟨rfl,rfl⟩:=h;obtain⟨e1,e2,bG⟩:=Wq ops.toList dV s s2 a8 js ID cp;have Qs:=Xm (ops:=ops) ops.toList [] (fun i o an=>by simpa using an) (fun k i a4=>by simp at a4);have pZ:=XR js (H9 ops.toList []) 0 Mc;refine wp_region_any tU ?_
  refine aiq (lS:=s) (na:=a8) (js:=js) (by simpa using e1) (fun i x U=>by
   obtain⟨f1,f2,f0,f3,f4⟩:=bG i x U;exact⟨by simpa using f1,f2,f0,f3,f4⟩) (fun x U p ai=>bC p (by rw[List.mem_flatMap];exact⟨x,U,ai⟩)) (fun i j x y sE U aY a1=> ?_) (fun i o an e he aO=> ?_) (fun cc eK b5 dc=>zE cc eK b5 (by rw[e2];exact dc))
   ops.size _ aD a _ (by simp) ?_ ?_ ?_
  ·obtain⟨f1,-⟩:=pZ j y aY;have fa:(js.take (0+j))[i]? = some x:=(by rw[dS,dz (by omega)];exact U);have:=WT _ 0 f1 i x fa a1;rw[dG] at this;exact Qs j i this
  ·have aa:i<js.length:=by
    rw[e1];have:=(arD.1 an).1;simpa using this
   have U:=dy aa;obtain⟨f1,-⟩:=bG i _ U;have Fx:ops[i]? = some (js[i]).o:=(by simpa using f1);rw[an] at Fx;simp at Fx;obtain⟨-,f2⟩:=pZ i _ U;have:=f2 e (by rw[<- Fx];exact he) aO;omega
  ·unfold Aw;have:(Array.replicate ops.size false).toList=List.replicate ops.size false:=(by simp);rw[this,List.countP_replicate];simp
  ·intro i j ap;simp[ary,Array.getElem?_replicate] at ap;split at ap<;>simp at ap
  have e:jN js (fun i=>(Array.replicate ops.size false).getD i false) 0 s=s:=by
   rw[Hl js _ (fun _=>false) 0 s (fun i _=>by simp[ary,Array.getElem?_replicate];split<;>simp)]
   have cK : ∀(l:List Rec) (n:Nat),jN l (fun _=>false) n s=s:=by
    intro l
    induction l with
    | nil=>intro n;rfl
    | cons x l ih=>intro n;simp only[jN,arA,if_false];exact ih _
   exact cK _ _
  rw[e];exact ak.drew
def FB:List (Nat×aA)->Nat->aA
 | [],_=> .dead
 | (u,v)::l,t=>if t=u then v else FB l t
def dv (env:List (Nat×aA))(rows:List (List aR)):S:={E:=FB env,a7:=fun r=>rows[r]?}
theorem AL (env:List (Nat×aA))(rows:List (List aR)):(dv env rows).nk rows.length:=by intro r ak;simp[dv,ak]
def AR (row:List aR):Prop:= ∀o∈row,j3 o.es
def qa (l:List Nat):iP:=fun j i=>match l[j]? with
 | some r=>some (r,i)
 | none=>none
def FC (a3:iP)(x dY:aA):Prop :=
 (dY=x/\x.kv=true)\/(∃r k cj len j i,x = .bw r k cj len/\a3 j i=some (r,k)/\dY = .bw j i cj len)\/dY = .dead \/
   ∃r c sz h j eG,x = .k8 r c sz h/\(∀k,a3 j (k+eG)=some (r,k+c))/\dY = .k8 j eG sz h
def tf (a3:iP)(row e8:List aR):Prop :=
 e8.length=row.length/\ ∀(k:Nat) o cD,row[k]? = some o->e8[k]? = some cD->cD.sz=o.sz/\cD.cY=o.cY/\cD.es.length=o.es.length/\(∀e∈cD.es,e.length=o.sz) /\
  ∀(j:Nat) x dY,o.es.flatten[j]? = some x->cD.es.flatten[j]? = some dY->FC a3 x dY
def uU (a7:Nat->Option (List aR))(b7:Nat->Option Nat)(a3:iP)(bN:hU->Bool):kg->List aR->Option (List aR×List Prop)
 | .pure,row=>some (row,[AR row])
 | .cM e8,row=>some (e8,[row=e8,AR e8])
 | .bq e8,row=>some (e8,[e8=row.map (lK b7)])
 | .rx e8,row=>some (e8,[tf a3 row e8])
 | .drop,row=>some (row.map vE,[])
 | .box l,[o]=>match o.es with
  | [c]=>match oJ (oI a7 b7 a3 bN) l c with
   | some (eG,al)=>some ([{o with es:=[eG]}],al)
   | none=>none
  | _=>none
 | _,_=>none
def xG (a7:Nat->Option (List aR))(b7:Nat->Option Nat)(a3:iP):List Nat->List kg->Option (List (List aR)×List Prop)
 | [],[]=>some ([],[])
 | r::l,c::di=>match a7 r with
  | some row=>match uU a7 b7 a3 k6 c row,xG a7 b7 a3 l di with
   | some (e8,cf),some (T,aU)=>some (e8::T,cf++aU)
   | _,_=>none
  | none=>none
 | _,_=>none
def Ia (a7:Nat->Option (List aR))(b7:Nat->Option Nat)(a3:iP)(E:Nat->aA):List (Nat×n9)->Option (List (Nat×aA)×List Prop)
 | []=>some ([],[])
 | (t,c)::l=>match qY a7 b7 a3 k6 c (E t),Ia a7 b7 a3 E l with
  | some (v,cf),some (env,aU)=>some ((t,v)::env,cf++aU)
  | _,_=>none
def Ib (a3:List Nat)(m:Nat):Bool:=(List.range m).all fun j=>a3[j]? == some j
def LY (m:Nat)(s:S)(a3:List Nat)(di:List kg)(rp:List (Nat×n9)):Option (S×Nat×List Prop) :=
 if decide a3.Nodup && Ib a3 m then
  match xG s.a7 (bY a3) (qa a3) a3 di,Ia s.a7 (bY a3) (qa a3) s.E rp with
  | some (T,cf),some (env,aU)=>some (dv env T,T.length,cf++aU)
  | _,_=>none
 else none
section
variable {P:Program} {g:G} {s:S} {aD:g9} {a:Act} {w:World}
theorem Pj (eY:ky g s aD w){a3:iP}{b7:Nat->Option Nat}{bN:hU->Bool}(H:pP s a3 b7 bN){c:kg}{r:Nat}{mJ:Nat->Nat}{row e8:List aR}{al:List Prop}(eP:∀k o,er (some row) k=some o->s.al r (mJ k)=some o)
 (h:uU s.a7 b7 a3 bN c row=some (e8,al)) (bC : ∀p∈al,p) :
 e8.length=row.length/\ ∀(k:Nat) cD,er (some e8) k=some cD-> ∃o,er (some row) k=some o/\rU s a3 bN o5 o cD:=by
 have hlen : ∀k o,er (some row) k=some o-> ∀e∈o.es,e.length=o.sz:=by
  intro k o an;have fj:s.al r (mJ k)=some o:=eP k o an;have hx:=eY.obj r (mJ k) o fj
  cases ai:aD r (mJ k) with
  | none=>rw[ai] at hx;simp only[lr] at hx;rw[hx];simp
  | some q=>rw[ai] at hx;obtain⟨_,_,_,_,e,_⟩:=hx;exact e
 have xC:AR row-> ∀(k:Nat) cD,er (some row) k=some cD-> ∃o,er (some row) k=some o/\rU s a3 bN o5 o cD:=by
  intro ai
  have wL : ∀k o,er (some row) k=some o->o∈row:=by
   intro k o an;unfold er at an;simp only at an;split at an
   ·rename_i cD fj
    split at an
    ·simp at an
    simp at an;subst an;exact dH fj
   simp at an
  refine fun k o an=>⟨o,an,rfl,.inl rfl,rfl,hlen k o an,fun j x dY U fa=> ?_⟩;rw[U] at fa;simp at fa;subst fa;obtain⟨e,he,u4⟩:=xc U;exact .pure (ai o (wL k o an) e he x u4) trivial
 cases c with
 | pure =>
  simp only[uU,dA,dF] at h;obtain⟨rfl,rfl⟩:=h;exact⟨rfl,xC (bC _ (by simp))⟩
 | cM aJ =>
  simp only[uU,dA,dF] at h;obtain⟨rfl,rfl⟩:=h;have e:row=aJ:=bC _ (by simp);subst e;exact⟨rfl,xC (bC _ (by simp))⟩
 | bq aJ =>
  simp only[uU,dA,dF] at h;obtain⟨rfl,rfl⟩:=h;have e:aJ=row.map (lK b7):=bC _ (by simp);subst e;exact⟨by simp,ZI eY H eP (fun _ _ _ _ _ _ _=>trivial)⟩
 | rx aJ =>
  simp only[uU,dA,dF] at h;obtain⟨rfl,rfl⟩:=h;obtain⟨h1,h2⟩:tf a3 row aJ:=bC _ (by simp);refine⟨h1,fun k cD fj=> ?_⟩;rw[m3] at fj
  cases p6:aJ[k]? with
  | none=>rw[p6] at fj;simp at fj
  | some mX =>
   rw[p6,dx] at fj;split at fj
   ·simp at fj
   rename_i d6;simp only[dA] at fj;subst fj;have eS:k<row.length:=(by have:=gD p6;omega);have a4:=dy eS;obtain⟨q1,q2,bB,cu,dn⟩:=h2 k _ _ a4 p6;have an:er (some row) k=some row[k]:=(by rw[m3,a4,dx,dB (by rw[<- q2];exact d6)]);refine⟨_,an,q1,.inl q2,bB,cu,fun j x dY U fa=> ?_⟩;have hx:=eY.obj r (mJ k) _ (eP k _ an)
   cases ai:aD r (mJ k) with
   | none=>rw[ai] at hx;simp only[lr] at hx;rw[hx] at U;simp at U
   | some yk =>
    obtain⟨b,m⟩:=yk;rw[ai] at hx;obtain⟨c,f6,f1,f2,f3,f4⟩:=hx;obtain⟨u,k9,nP,jh⟩:=f4 j x U;rcases dn j x dY U fa with ⟨rfl,a2⟩|⟨r2,kh,cj,len,rn,i2,rfl,hm,rfl⟩|rfl|⟨r2,cw,aaw,h2,rn,j8,rfl,hm,rfl⟩
    ·exact .pure (jh.E8 a2) trivial
    ·exact .bw cj len hm (by cases jh<;>assumption)
    ·exact .dead _
    exact .k8 h2 hm
 | drop =>
  simp only[uU,dA,dF] at h;obtain⟨rfl,rfl⟩:=h;refine⟨by simp,fun k o an=> ?_⟩;rw[m3,dK] at an;cases a4:row[k]? <;> simp[a4,vE] at an
 | box l =>
  match row,h with
  | [o],h =>
   simp only[uU] at h;split at h;rotate_left
   ·simp at h
   rename_i c jP;split at h;rotate_left
   ·simp at h
   rename_i eG qH a1;simp only[dA,dF] at h;obtain⟨rfl,rfl⟩:=h;refine⟨rfl,fun k p ai=> ?_⟩;rw[pb] at ai;split at ai;rotate_left
   ·simp at ai
   rename_i wQ;obtain⟨rfl,ri⟩:=wQ;simp only[dA] at ai;subst ai;have h0:er (some [o]) 0=some o:=(by rw[pb];simpa using ri);refine⟨o,h0,?_⟩;have fj:s.al r (mJ 0)=some o:=eP 0 o h0;have hx:=eY.obj r (mJ 0) o fj
   cases m5:aD r (mJ 0) with
   | none=>rw[m5] at hx;simp only[lr] at hx;rw[jP] at hx;simp at hx
   | some q =>
    obtain⟨b,m⟩:=q;rw[m5] at hx;obtain⟨c1,f6,g1,g2,g3,g4⟩:=hx;have Qr:c.length=o.sz:=g3 c (by rw[jP];simp);have mg:o.es.flatten=c:=(by rw[jP];simp);obtain⟨e1,e2⟩:=Hx (vs:=(List.range c.length).map fun j=>(c1[j]?).getD undef) eY H (zo _) a1 bC (fun _ _=>trivial) (by simp) (by intro j y u aY hu;have ap:=gD aY;rw[dK,List.getElem?_range ap] at hu;simp only[arq,dA] at hu;obtain⟨oc,k9,-,jh⟩:=g4 j y (by rw[mg];exact aY);rw[k9] at hu;simp at hu;subst hu;exact jh);refine⟨rfl,.inl rfl,by simp[jP],by simp;omega,fun j x dY U fa=> ?_⟩;rw[mg] at U;simp only[aru,List.flatten_nil,List.append_nil] at fa;exact e2 j x dY U fa
  | [],h=>simp[uU] at h
  | _::_::_,h=>simp[uU] at h
theorem Pk (eY:ky g s aD w){a3:iP}{b7:Nat->Option Nat}(H:pP s a3 b7 k6): ∀(l:List Nat) (di:List kg) (T:List (List aR)) (al:List Prop),
 xG s.a7 b7 a3 l di=some (T,al)->(∀p∈al,p)->T.length=l.length/\ ∀(j:Nat) e8 r,T[j]? = some e8->l[j]? = some r-> ∃row,s.a7 r=some row/\e8.length=row.length /\
  ∀(k:Nat) cD,er (some e8) k=some cD-> ∃o,er (some row) k=some o/\rU s a3 k6 o5 o cD
 | [],[],T,al,h,_=>by simp[xG] at h;obtain⟨rfl,rfl⟩:=h;exact⟨rfl,fun j e8 r ap=>by simp at ap⟩
 | r::l,c::di,T,al,h,bC=>by
  simp only[xG] at h;split at h
  ·rename_i row eP
   split at h
   ·rename_i aB cf qi aU h1 h2
    simp only[dA,dF] at h;obtain⟨rfl,rfl⟩:=h;obtain⟨e1,e2⟩:=Pk eY H l di qi aU h2 (fun p ai=>bC p (by simp[ai]));have f2:=Pj (mJ:=id) eY H (fun k o an=>by unfold S.al;rw[eP];exact an) h1 (fun p ai=>bC p (by simp[ai]));refine⟨by simp[e1],fun j e8 q ap a0=> ?_⟩
    cases j with
    | zero=>simp at ap a0;subst ap;subst a0;exact⟨row,eP,f2.1,f2.2⟩
    | succ j=>simp at ap a0;exact e2 j e8 q ap a0
   simp at h
  simp at h
 | [],_::_,_,_,h,_=>by simp[xG] at h
 | _::_,[],_,_,h,_=>by simp[xG] at h
theorem XS (h:dZ g s aD a w){a3:iP}{b7:Nat->Option Nat}(H:pP s a3 b7 k6): ∀(l:List (Nat×n9)) (env:List (Nat×aA)) (al:List Prop),
 Ia s.a7 b7 a3 s.E l=some (env,al)->(∀p∈al,p)-> ∀t,j2 s a3 k6 o5 (s.E t) (FB env t)
 | [],env,al,ak,_=>by simp[Ia] at ak;obtain⟨rfl,rfl⟩:=ak;intro t;exact .dead _
 | (u,c)::l,env,al,ak,bC=>by
  simp only[Ia] at ak;split at ak
  ·rename_i v cf Qt aU h1 h2
   simp only[dA,dF] at ak;obtain⟨rfl,rfl⟩:=ak;have ih:=XS h H l Qt aU h2 (fun p ai=>bC p (by simp[ai]));intro t;unfold FB;split
   ·rename_i e;subst e;exact HD h.toky H (zo _) h1 (fun p ai=>bC p (by simp[ai])) trivial (h.env t)
   exact ih t
  simp at ak
theorem AS {l:List Nat}{j i r k:Nat}:qa l j i=some (r,k)↔l[j]? = some r/\i=k:=by unfold qa;cases l[j]? <;> simp
theorem LZ {a3:List Nat}(a2:a3.Nodup):pP s (qa a3) (bY a3) k6 :=
 ⟨fun _ _ h _=>AS.2 ⟨WJ h,rfl⟩,fun _ ak _ _ _ _ _ _ hm=>by rw[WK a2 (AS.1 hm).1] at ak;simp at ak⟩
theorem Y7 {a3:List Nat} (hnd:a3.Nodup) {T:List (List aR)} (e1:T.length=a3.length) (e2 : ∀(j:Nat) e8 r,T[j]? = some e8->a3[j]? = some r-> ∃row,s.a7 r=some row/\e8.length=row.length /\
 ∀(k:Nat) cD,er (some e8) k=some cD-> ∃o,er (some row) k=some o/\rU s (qa a3) k6 o5 o cD):tZ s (qa a3) k6 o5 (fun j=>T[j]?):=by
 refine⟨?_,?_,?_⟩
 ·intro j i jZ fU p e fA;obtain⟨r,k⟩:=p;obtain⟨fw,rfl⟩:=AS.1 e;obtain⟨fo,rfl⟩:=AS.1 fA;exact⟨(List.getElem?_inj (gD fw) hnd).1 (fw.trans fo.symm),rfl⟩
 ·intro j i cD fj
  have fj:er (T[j]?) i=some cD:=fj
  cases ap:T[j]? with
  | none=>rw[ap] at fj;simp[er] at fj
  | some e8 =>
   rw[ap] at fj;have eS:j<a3.length:=(by have:=gD ap;omega);have a0:=dy eS;obtain⟨row,f1,-,f2⟩:=e2 j e8 _ ap a0;obtain⟨o,g1,g2⟩:=f2 i cD fj;exact⟨_,i,o,AS.2 ⟨a0,rfl⟩,by unfold S.al;rw[f1];exact g1,g2⟩
 intro j i r k e hu;obtain⟨fw,rfl⟩:=AS.1 e;have eS:j<T.length:=by have:=gD fw;omega
 obtain⟨row,f1,f2,-⟩:=e2 j _ r (dy eS) fw;show i<((T[j]?).getD []).length;rw[dy eS];show i<T[j].length;rw[f2];simpa [S.bi,f1] using hu
theorem XT {a3:List Nat}{g:G}(eY:ky g s aD w)(vP:Ib a3 g.m=true): ∀j k,g.sD j k->qa a3 j k=some (j,k):=by intro j k ap;unfold Ib at vP;have:=List.all_eq_true.1 vP j (List.mem_range.2 (eY.low j k ap));exact AS.2 ⟨by simpa using this,rfl⟩
theorem ajx (h:dZ g s aD a w){a3:List Nat}{di:List kg}{rp:List (Nat×n9)}{cg:S}{n:Nat}{al:List Prop}(ak:LY g.m s a3 di rp=some (cg,n,al))(bC:∀p∈al,p):
 cg.nk n/\dZ g cg (mh aD (qa a3)) a w:=by
 unfold LY at ak;split at ak
 ·rename_i a1
  simp only[dO,decide_eq_true_eq] at a1;obtain⟨hnd,vP⟩:=a1;split at ak
  ·rename_i T cf env aU h1 h2;simp only[dA,dF] at ak;obtain⟨rfl,rfl,rfl⟩:=ak;refine⟨AL _ _,?_⟩;obtain⟨e1,e2⟩:=Pk h.toky (LZ hnd) a3 di T cf h1 (fun p ai=>bC p (by simp[ai]));refine h.Yu (a3:=qa a3) (q:=o5) (Y7 hnd e1 e2) (XS h (LZ hnd) rp env aU h2 (fun p ai=>bC p (by simp[ai]))) (XT h.toky vP)
  simp at ak
 simp at ak
def jn (l:List pr):iP:=fun j i=>match l[j]? with
 | some fs=>if i<fs.bI.length then fs.bI[i]? else (match fs.lz with
  | some (r,n)=>some (r,i-fs.bI.length+n)
  | none=>none)
 | none=>none
def xP (n:Nat):List pr->Nat->Option Nat
 | [],_=>none
 | fs::l,r=>if fs={bI:=[],lz:=some (r,0)} then some n else xP (n+1) l r
def y0 (r k:Nat)(fs:pr):Bool:=fs.bI.contains (r,k) || (match fs.lz with|some (q,n)=>q == r && decide (n<=k)|none=>false)
def PQ (fs:pr):Bool:=decide fs.bI.Nodup && fs.bI.all fun p=>match fs.lz with|some (q,n)=> !(q == p.1 && decide (n<=p.2))|none=>true
def K9 (a b:pr):Bool:=(a.bI.all fun p=> !y0 p.1 p.2 b) && (b.bI.all fun p=> !y0 p.1 p.2 a) && (match a.lz,b.lz with|some (q,_),some (jY,_)=> !(q == jY)|_,_=>true)
def HZ:List pr->Bool
 | []=>true
 | a::l=>PQ a && l.all (K9 a) && HZ l
def Y8 (l:List pr)(m:Nat):Bool:=(List.range m).all fun j=>l[j]? == some {bI:=[],lz:=some (j,0)}
def Be (a7:Nat->Option (List aR))(b7:Nat->Option Nat)(a3:iP):List (Nat×Nat)->List kg->Option (List aR×List Prop)
 | [],[]=>some ([],[])
 | (r,k)::l,c::di=>match er (a7 r) k with
  | some o=>match uU a7 b7 a3 nI c [o],Be a7 b7 a3 l di with
   | some ([cD],cf),some (T,aU)=>some (cD::T,cf++aU)
   | _,_=>none
  | none=>none
 | _,_=>none
def Fa (a7:Nat->Option (List aR))(b7:Nat->Option Nat)(a3:iP):Option (Nat×Nat)->Option kg->Option (List aR×List Prop)
 | none,none=>some ([],[])
 | some (r,n),some c=>match a7 r with
  | some row=>uU a7 b7 a3 nI c (row.drop n)
  | none=>none
 | _,_=>none
def Bf (a7:Nat->Option (List aR))(b7:Nat->Option Nat)(a3:iP):List pr->List (List kg×Option kg)->Option (List (List aR)×List Prop)
 | [],[]=>some ([],[])
 | fs::l,(RL,aby)::di=>match Be a7 b7 a3 fs.bI RL,Fa a7 b7 a3 fs.lz aby,Bf a7 b7 a3 l di with
  | some (a,cf),some (b,aU),some (T,e9)=>some ((a++b)::T,cf++aU++e9)
  | _,_,_=>none
 | _,_=>none
def H0 (a7:Nat->Option (List aR))(b7:Nat->Option Nat)(a3:iP)(E:Nat->aA):List (Nat×n9)->Option (List (Nat×aA)×List Prop)
 | []=>some ([],[])
 | (t,c)::l=>match qY a7 b7 a3 nI c (E t),H0 a7 b7 a3 E l with
  | some (v,cf),some (env,aU)=>some ((t,v)::env,cf++aU)
  | _,_=>none
def LJ (m:Nat)(s:S)(l:List pr)(di:List (List kg×Option kg))(rp:List (Nat×n9)):Option (S×Nat×List Prop) :=
 if HZ l && Y8 l m then
  match Bf s.a7 (xP 0 l) (jn l) l di,H0 s.a7 (xP 0 l) (jn l) s.E rp with
  | some (T,cf),some (env,aU)=>some (dv env T,T.length,cf++aU)
  | _,_=>none
 else none
theorem PR {l:List pr}{j i r k:Nat}(h:jn l j i=some (r,k)): ∃fs,l[j]? = some fs/\y0 r k fs=true/\(if i<fs.bI.length then fs.bI[i]? = some (r,k) else ∃n,fs.lz=some (r,n)/\k=i-fs.bI.length+n):=by
 unfold jn at h
 cases ap:l[j]? with
 | none=>rw[ap] at h;simp at h
 | some fs =>
  rw[ap] at h;simp only at h;refine⟨fs,rfl,?_⟩;split at h
  ·rename_i eS;rw[dz eS];exact⟨by unfold y0;simp[dH h],h⟩
  rename_i eS;rw[dB eS];split at h
  ·rename_i fN n cv;simp only[dA,dF] at h;obtain⟨rfl,rfl⟩:=h;exact⟨by unfold y0;simp[cv],n,cv,rfl⟩
  simp at h
theorem Xn : ∀ {l:List pr},HZ l=true->(∀(j:Nat) a,l[j]? = some a->PQ a=true)/\ ∀(i j:Nat) a b,i<j->l[i]? = some a->l[j]? = some b->K9 a b=true
 | [],_=>⟨fun j a h=>by simp at h,fun i j a b _ h=>by simp at h⟩
 | c::l,h=>by
  simp only[HZ,dO] at h;obtain⟨⟨h1,h2⟩,R⟩:=h;obtain⟨e1,e2⟩:=Xn R;refine⟨fun j a ap=> ?_,fun i j a b sE bH aO=> ?_⟩
  ·cases j with
   | zero=>simp at ap;subst ap;exact h1
   | succ j=>exact e1 j a (by simpa using ap)
  cases j with
  | zero=>omega
  | succ j =>
   simp at aO
   cases i with
   | zero=>simp at bH;subst bH;exact List.all_eq_true.1 h2 b (dH aO)
   | succ i=>exact e2 i j a b (by omega) (by simpa using bH) aO
theorem Wr {a b:pr}{r k:Nat}(h:K9 a b=true)(bH:y0 r k a=true)(aO:y0 r k b=true):False:=by
 simp only[K9,dO,List.all_eq_true] at h;obtain⟨⟨h1,h2⟩,R⟩:=h;have aaD:=bH;have p3:=aO;simp only[y0,Bool.or_eq_true,List.contains_iff_mem] at bH aO;rcases bH with bH|bH
 ·have:=h1 _ bH;simp[p3] at this
 rcases aO with aO|aO
 ·have:=h2 _ aO;simp[aaD] at this
 cases e1:a.lz with
 | none=>rw[e1] at bH;simp at bH
 | some p =>
  obtain⟨q,n⟩:=p
  cases e2:b.lz with
  | none=>rw[e2] at aO;simp at aO
  | some mX =>
   obtain⟨jY,qh⟩:=mX;rw[e1] at bH;rw[e2] at aO;rw[e1,e2] at R;simp at bH aO R;exact R (bH.1.trans aO.1.symm)
theorem akv {l:List pr}(aZ:HZ l=true): ∀j i jZ fU p,jn l j i=some p->jn l jZ fU=some p->j=jZ/\i=fU:=by
 intro j i jZ fU p h dc;obtain⟨r,k⟩:=p;obtain⟨fs,fw,fo,bA⟩:=PR h;obtain⟨MB,jw,kE,sa⟩:=PR dc;obtain⟨e1,e2⟩:=Xn aZ
 have ap:j=jZ:=by
  rcases Nat.lt_trichotomy j jZ with e|e|e
  ·exact(Wr (e2 j jZ fs MB e fw jw) fo kE).elim
  ·exact e
  exact(Wr (e2 jZ j MB fs e jw fw) kE fo).elim
 subst ap;rw[fw] at jw;simp at jw;subst jw;refine⟨rfl,?_⟩;have h1:=e1 j fs fw;simp only[PQ,dO,decide_eq_true_eq,List.all_eq_true] at h1;obtain⟨n1,n2⟩:=h1;split at bA<;>split at sa
 ·exact(List.getElem?_inj (by assumption) n1).1 (bA.trans sa.symm)
 ·obtain⟨n,t1,t2⟩:=sa;have:=n2 _ (dH bA);rw[t1] at this;simp at this;omega
 ·obtain⟨n,t1,t2⟩:=bA;have:=n2 _ (dH sa);rw[t1] at this;simp at this;omega
 obtain⟨n,t1,t2⟩:=bA;obtain⟨qh,aaE,aqo⟩:=sa;rw[t1] at aaE;simp at aaE;omega
theorem Xo : ∀ {l:List pr} {n r j:Nat},xP n l r=some j->n<=j/\l[j-n]? = some {bI:=[],lz:=some (r,0)}
 | [],_,_,_,h=>by simp[xP] at h
 | fs::l,n,r,j,h=>by
  simp only[xP] at h;split at h
  ·rename_i e;simp at h;subst h;exact⟨dE _,by simp[e]⟩
  obtain⟨h1,h2⟩:=Xo h;exact⟨by omega,by rw[show j-n=(j-(n+1))+1 by omega,List.getElem?_cons_succ];exact h2⟩
theorem Z7 (l:List pr):pP s (jn l) (xP 0 l) nI:=by refine⟨fun r j ap k=> ?_,fun _ _ _ _ _ bH=>by simp[nI] at bH⟩;obtain⟨-,h2⟩:=Xo ap;simp only[jn,show l[j]? = some {bI:=[],lz:=some (r,0)} by simpa using h2];simp
theorem XU (eY:ky g s aD w){a3:iP}{b7:Nat->Option Nat}(H:pP s a3 b7 nI): ∀(l:List (Nat×Nat)) (di:List kg) (T:List aR) (al:List Prop),
 Be s.a7 b7 a3 l di=some (T,al)->(∀p∈al,p)->T.length=l.length/\ ∀(i:Nat) cD,er (some T) i=some cD-> ∃r k o,l[i]? = some (r,k)/\s.al r k=some o/\rU s a3 nI o5 o cD
 | [],[],T,al,h,_=>by simp[Be] at h;obtain⟨rfl,rfl⟩:=h;exact⟨rfl,fun i cD an=>by simp[er] at an⟩
 | (r,k)::l,c::di,T,al,h,bC=>by
  simp only[Be] at h;split at h;rotate_left
  ·simp at h
  rename_i o an;split at h;rotate_left
  ·simp at h
  rename_i p cf qi aU h1 h2;simp only[dA,dF] at h;obtain⟨rfl,rfl⟩:=h;obtain⟨e1,e2⟩:=XU eY H l di qi aU h2 (fun p ai=>bC p (by simp[ai]))
  have o0 : ∀eh cD,er (some [o]) eh=some cD->cD=o:=fun eh cD a4=>by
   rw[pb] at a4;split at a4
   ·simp at a4;exact a4.symm
   simp at a4
  have fj:s.al r k=some o:=an;obtain⟨f0,f1⟩:=Pj (r:=r) (mJ:=fun _=>k) eY H (fun eh cD a4=>by rw[o0 eh cD a4];exact fj) h1 (fun p ai=>bC p (by simp[ai]));refine⟨by simp[e1],fun i cD aa=> ?_⟩
  cases i with
  | zero =>
   have aa:er (some [p]) 0=some cD:=(by rw[m3] at aa ⊢;simpa using aa);obtain⟨aU,g1,g2⟩:=f1 0 cD aa;rw[o0 0 aU g1] at g2;exact⟨r,k,o,rfl,fj,g2⟩
  | succ i =>
   have aa:er (some qi) i=some cD:=(by rw[m3] at aa ⊢;simpa using aa);obtain⟨fN,eh,aU,g1,g2,g3⟩:=e2 i cD aa;exact⟨fN,eh,aU,by simpa using g1,g2,g3⟩
 | [],_::_,_,_,h,_=>by simp[Be] at h
 | _::_,[],_,_,h,_=>by simp[Be] at h
theorem ajy (eY:ky g s aD w){a3:iP}{b7:Nat->Option Nat}(H:pP s a3 b7 nI){lz:Option (Nat×Nat)}{di:Option kg}{T:List aR}{al:List Prop}
 (h:Fa s.a7 b7 a3 lz di=some (T,al)) (bC : ∀p∈al,p):(∀r n k,lz=some (r,n)->s.bi r (k+n)->k<T.length) /\
   ∀(i:Nat) cD,er (some T) i=some cD-> ∃r n o,lz=some (r,n)/\s.al r (i+n)=some o/\rU s a3 nI o5 o cD:=by
 cases lz with
 | none =>
  cases di with
  | none =>
   simp[Fa] at h;obtain⟨rfl,rfl⟩:=h;exact⟨fun r n k e=>by simp at e,fun i cD an=>by simp[er] at an⟩
  | some c=>simp[Fa] at h
 | some p =>
  obtain⟨r,n⟩:=p
  cases di with
  | none=>simp[Fa] at h
  | some c =>
   simp only[Fa] at h;split at h
   ·rename_i row eP
    have bI : ∀k o,er (some (row.drop n)) k=some o->s.al r (k+n)=some o:=fun k o an=>(by unfold S.al;rw[eP,m3];rw[m3,arz] at an;rw[Nat.add_comm];exact an);obtain⟨f0,f1⟩:=Pj (r:=r) (mJ:=fun k=>k+n) eY H bI h bC;refine⟨fun fN qh k e a4=> ?_,fun i cD an=> ?_⟩
    ·simp only[dA,dF] at e;obtain⟨rfl,rfl⟩:=e;rw[f0,List.length_drop];simp[S.bi,eP] at a4;omega
    obtain⟨o,g1,g2⟩:=f1 i cD an;exact⟨r,n,o,rfl,bI i o g1,g2⟩
   simp at h
theorem ahd {a b:List aR}{i:Nat}:er (some (a++b)) i=if i<a.length then er (some a) i else er (some b) (i-a.length):=by rw[m3,m3,m3,List.getElem?_append];split<;>rfl
theorem XV (eY:ky g s aD w){a3:iP}{b7:Nat->Option Nat}(H:pP s a3 b7 nI): ∀(l:List pr) (di:List (List kg×Option kg)) (T:List (List aR)) (al:List Prop),
 Bf s.a7 b7 a3 l di=some (T,al)->(∀p∈al,p)->T.length=l.length/\ ∀(j:Nat) e8 fs,T[j]? = some e8->l[j]? = some fs ->
  (fs.bI.length<=e8.length)/\(∀r n k,fs.lz=some (r,n)->s.bi r (k+n)->k+fs.bI.length<e8.length) /\
  ∀(i:Nat) cD,er (some e8) i=some cD-> ∃r k o,(if i<fs.bI.length then fs.bI[i]? = some (r,k) else ∃n,fs.lz=some (r,n)/\k=i-fs.bI.length+n)/\s.al r k=some o/\rU s a3 nI o5 o cD
 | [],[],T,al,h,_=>by simp[Bf] at h;obtain⟨rfl,rfl⟩:=h;exact⟨rfl,fun j e8 fs ap=>by simp at ap⟩
 | fs::l,(RL,aby)::di,T,al,h,bC=>by
  simp only[Bf] at h;split at h;rotate_left
  ·simp at h
  rename_i a cf b aU qi e9 h1 h2 R;simp only[dA,dF] at h;obtain⟨rfl,rfl⟩:=h;obtain⟨e1,e2⟩:=XV eY H l di qi e9 R (fun p ai=>bC p (by simp[ai]));obtain⟨f1,f2⟩:=XU eY H fs.bI RL a cf h1 (fun p ai=>bC p (by simp[ai]));obtain⟨g1,g2⟩:=ajy eY H h2 (fun p ai=>bC p (by simp[ai]));refine⟨by simp[e1],fun j e8 MB ap t0=> ?_⟩
  cases j with
  | zero =>
   simp at ap t0;subst ap;subst t0;refine⟨by simp[f1],fun r n k e a4=> ?_,fun i cD an=> ?_⟩
   ·have:=g1 r n k e a4;simp[f1];omega
   rw[ahd,f1] at an;split at an
   ·rename_i eS;obtain⟨r,k,o,q1,q2,bB⟩:=f2 i cD an;exact⟨r,k,o,by rw[dz eS];exact q1,q2,bB⟩
   rename_i eS;obtain⟨r,n,o,q1,q2,bB⟩:=g2 _ cD an;exact⟨r,_,o,by rw[dB eS];exact⟨n,q1,rfl⟩,q2,bB⟩
  | succ j=>simp at ap t0;exact e2 j e8 MB ap t0
 | [],_::_,_,_,h,_=>by simp[Bf] at h
 | _::_,[],_,_,h,_=>by simp[Bf] at h
theorem Xp (h:dZ g s aD a w){a3:iP}{b7:Nat->Option Nat}(H:pP s a3 b7 nI): ∀(l:List (Nat×n9)) (env:List (Nat×aA)) (al:List Prop),
 H0 s.a7 b7 a3 s.E l=some (env,al)->(∀p∈al,p)-> ∀t,j2 s a3 nI o5 (s.E t) (FB env t)
 | [],env,al,ak,_=>by simp[H0] at ak;obtain⟨rfl,rfl⟩:=ak;intro t;exact .dead _
 | (u,c)::l,env,al,ak,bC=>by
  simp only[H0] at ak;split at ak
  ·rename_i v cf Qt aU h1 h2
   simp only[dA,dF] at ak;obtain⟨rfl,rfl⟩:=ak;have ih:=Xp h H l Qt aU h2 (fun p ai=>bC p (by simp[ai]));intro t;unfold FB;split
   ·rename_i e;subst e;exact HD h.toky H (zo _) h1 (fun p ai=>bC p (by simp[ai])) trivial (h.env t)
   exact ih t
  simp at ak
theorem j2.wide {a3:iP}{bN aaF:hU->Bool}{q:aA->Prop}(h:∀k,bN k=true->aaF k=true){x dY:aA}(bS:j2 s a3 bN q x dY):j2 s a3 aaF q x dY:=by
 induction bS with
 | dead x=>exact .dead x
 | pure ai a0=>exact .pure ai a0
 | fQ sz=>exact .fQ sz
 | kM sz=>exact .kM sz
 | LU sz=>exact .LU sz
 | hr h ih=>exact .hr ih
 | ref i off hm hu=>exact .ref i off hm hu
 | bw cj len hm hu=>exact .bw cj len hm hu
 | pU r c sz=>exact .pU r c sz
 | q8 h ih=>exact .q8 ih
 | k8 h hm=>exact .k8 h hm
 | gv i off an bH ak dX ai hle aZ hn ih=>exact .gv i off an (h _ bH) ak dX ai hle aZ ih
 | isl an bH ak ke ai hle aZ hn ih=>exact .isl an (h _ bH) ak ke ai hle aZ ih
 | agg aZ hn ih=>exact .agg aZ ih
 | et aZ hn ih=>exact .et aZ ih
 | fn aZ hn ih=>exact .fn aZ ih
theorem air (h:dZ g s aD a w){l:List pr}{di:List (List kg×Option kg)}{rp:List (Nat×n9)}{cg:S}{n:Nat}{al:List Prop}(ak:LJ g.m s l di rp=some (cg,n,al))(bC:∀p∈al,p):
 cg.nk n/\dZ g cg (mh aD (jn l)) a w:=by
 unfold LJ at ak;split at ak;rotate_left
 ·simp at ak
 rename_i a1;simp only[dO] at a1;obtain⟨pZ,vP⟩:=a1;split at ak;rotate_left
 ·simp at ak
 rename_i T cf env aU h1 h2;simp only[dA,dF] at ak;obtain⟨rfl,rfl,rfl⟩:=ak;refine⟨AL _ _,?_⟩;obtain⟨e1,e2⟩:=XV h.toky (Z7 l) l di T cf h1 (fun p ai=>bC p (by simp[ai]));have fl:=Xp h (Z7 l) rp env aU h2 (fun p ai=>bC p (by simp[ai]));refine h.Yu (a3:=jn l) (q:=o5) ⟨akv pZ,?_,?_⟩ (fun t=>(fl t).wide fun _ bH=>by simp[nI] at bH) ?_
 ·intro j i cD fj
  have fj:er (T[j]?) i=some cD:=fj
  cases ap:T[j]? with
  | none=>rw[ap] at fj;simp[er] at fj
  | some e8 =>
   rw[ap] at fj;have eS:j<l.length:=(by have:=gD ap;omega);have a0:=dy eS;obtain⟨r,k,o,g1,g2,g3⟩:=(e2 j e8 _ ap a0).2.2 i cD fj;refine⟨r,k,o,?_,g2,⟨g3.sz,g3.cY,g3.len,g3.each,fun j x dY U fa=>(g3.at_ j x dY U fa).wide fun _ bH=>by simp[nI] at bH⟩⟩;simp only[jn,a0];split at g1
   ·rename_i aZ;rw[dz aZ];exact g1
   rename_i aZ;rw[dB aZ];obtain⟨n,t1,t2⟩:=g1;rw[t1,t2]
 ·intro j i r k e hu
  obtain⟨fs,fw,fo,bA⟩:=PR e;have eS:j<T.length:=(by have:=gD fw;omega);obtain⟨jw,kE,-⟩:=e2 j _ fs (dy eS) fw;show i<((T[j]?).getD []).length;rw[dy eS];show i<T[j].length;split at bA
  ·omega
  rename_i aZ;obtain⟨n,t1,t2⟩:=bA;have:=kE r n (i-fs.bI.length) t1 (by rw[<- t2];exact hu);omega
 intro j k ap;unfold Y8 at vP;have:=List.all_eq_true.1 vP j (List.mem_range.2 (h.low j k ap));simp only[beq_iff_eq] at this;simp only[jn,this];simp
theorem dZ.more (h:dZ g s aD a w){a8:Nat}{row:List aR}(gi:s.a7 a8=none)(eP:∀o∈row,o.es=[]):
 ∃cc,(∀k,cc a8 k=none)/\dZ g (s.setRow a8 row) cc a w:=by
 let s2:=s.setRow a8 row
 let cc:g9:=fun q k=>if q=a8 then none else aD q k
 have dX : ∀q k,s.bi q k->q≠a8:=by rintro q k a0 rfl;exact Ea gi k a0
 have ee : ∀q,q≠a8->s2.a7 q=s.a7 q:=fun q a0=>by simp[s2,S.setRow,a0]
 have ano:s2.a7 a8=some row:=by simp[s2,S.setRow]
 have Qn : ∀k o,s2.al a8 k=some o->o.es=[]:=by
  intro k o an;unfold S.al at an;rw[ano] at an;unfold er at an;simp only at an;split at an
  ·rename_i cD fj
   split at an
   ·simp at an
   simp at an;subst an;exact eP _ (dH fj)
  simp at an
 have bC : ∀q k,q≠a8->s2.al q k=s.al q k:=fun q k a0=>by unfold S.al;rw[ee q a0]
 have ol : ∀q k,q≠a8->s2.bo cc q k=s.bo aD q k:=fun q k a0=>by simp[S.bo,bC q k a0,cc,a0]
 have du:Step g s aD w s2 cc w:=⟨fun q k a0=>by unfold S.bi;rw[ee q (dX q k a0)];exact a0,fun q k a0=> .inl (ol q k (dX q k a0)),fun b aZ=>by
  obtain⟨q,k,o,m,h1,h2,R⟩:=aZ;by_cases e:q=a8
  ·subst e;simp[cc] at R
  rw[bC q k e] at h1;simp only[cc,dB e] at R;exact .inl ⟨q,k,o,m,h1,h2,R⟩,fun _ _ _=>rfl,dE _⟩
 have eY:ky g s2 cc w:=by
  refine⟨?_,?_,?_,h.i3,h.mlt,h.qD,?_,h.low⟩
  ·intro q k o an
   by_cases e:q=a8
   ·subst e;simp only[cc,if_true,lr];exact Qn k o an
   rw[bC q k e] at an;have:=du.obj (fun b m _=>rfl) (h.obj q k o an);simpa [cc,e] using this
  ·intro q k o jY eh cD b m aF h1 h2 R aj;have e:q≠a8:=(by rintro rfl;simp[cc] at R);have fA:jY≠a8:=(by rintro rfl;simp[cc] at aj);rw[bC q k e] at h1;rw[bC jY eh fA] at h2;simp only[cc,dB e] at R;simp only[cc,dB fA] at aj;exact h.inj q k o jY eh cD b m aF h1 h2 R aj
  ·intro q k o b m h1 h2;have e:q≠a8:=(by rintro rfl;simp[cc] at h2);rw[bC q k e] at h1;simp only[cc,dB e] at h2;exact h.own q k o b m h1 h2
  intro j k ap;obtain⟨e1,e2⟩:=h.stay j k ap;refine⟨by unfold S.bi;rw[ee j (dX j k e1)];exact e1,?_⟩;rw[ol j k (dX j k e1)];exact e2
 exact⟨cc,fun k=>by simp[cc],{toky:=eY,env:=fun u=>du.rel (h.env u),defers:=h.defers,mf:=h.mf}⟩
theorem dZ.alj (h:dZ g s aD a w){r wR:Nat}{cY:hU}{c eG:List aA}(eP:s.a7 r=some [⟨wR,[c],cY⟩])(aZ:eG.length=c.length)
 (a1 : ∀(j:Nat) x dY,c[j]? = some x->eG[j]? = some dY-> ∀v,Rel w (s.ok g aD w) s.bi (s.bo aD) x v->Rel w (s.ok g aD w) s.bi (s.bo aD) dY v) :
 dZ g (s.setRow r [⟨wR,[eG],cY⟩]) aD a w:=by
 let s2:=s.setRow r [⟨wR,[eG],cY⟩]
 have bC : ∀q k,s2.al q k=if q=r then (s.al q k).map (fun o=>{o with es:=[eG]}) else s.al q k:=by
  intro q k;show (s.setRow r _).al q k=_;rw[oE];split
  ·rename_i e;subst e;unfold S.al;rw[eP,pb,pb];split<;>rfl
  rfl
 have lJ:s2.bi=s.bi:=by
  funext q k;show (s.setRow r _).bi q k=_;refine propext ((qq s r _ q k).trans ?_);split
  ·rename_i e;subst e;simp[S.bi,eP]
  rfl
 have ol:s2.bo aD=s.bo aD:=by
  funext q k;unfold S.bo;rw[bC];split
  ·cases s.al q k<;>rfl
  rfl
 have vQ:s2.oW aD=s.oW aD:=by
  funext b;unfold S.oW;refine propext ⟨fun ⟨q,k,o,m,h1,h2,R⟩=> ?_,fun ⟨q,k,o,m,h1,h2,R⟩=> ?_⟩
  ·rw[bC] at h1
   split at h1
   ·rw[dP] at h1;obtain⟨cD,aj,rfl⟩:=h1;exact⟨q,k,cD,m,aj,h2,R⟩
   exact⟨q,k,o,m,h1,h2,R⟩
  by_cases e:q=r
  ·exact⟨q,k,{o with es:=[eG]},m,by rw[bC,dz e,h1];rfl,h2,R⟩
  exact⟨q,k,o,m,by rw[bC,dB e];exact h1,h2,R⟩
 have pZ:s2.ok g aD w=s.ok g aD w:=by funext b;unfold S.ok;rw[vQ]
 have eY:ky g s2 aD w:=by
  refine⟨?_,?_,?_,h.i3,h.mlt,h.qD,?_,h.low⟩
  ·intro q k o an
   rw[pZ,lJ,ol];rw[bC] at an;split at an;rotate_left
   ·exact h.obj q k o an
   rename_i e;subst e;rw[dP] at an;obtain⟨cD,aj,rfl⟩:=an;have aq:=h.obj _ k cD aj;have aM:cD=⟨wR,[c],cY⟩:=(by unfold S.al at aj;rw[eP,pb] at aj;split at aj<;>simp at aj;exact aj.symm);subst aM
   cases ai:aD q k with
   | none=>rw[ai] at aq;simp[lr] at aq
   | some p =>
    rw[ai] at aq;obtain⟨aoK,f6,g1,g2,g3,g4⟩:=aq;refine⟨aoK,f6,g1,g2,fun e he=> ?_,fun j x U=> ?_⟩
    ·simp at he;subst he;rw[aZ];exact g3 c (by simp)
    simp at U;have ap:=gD U;have ms:=dy (show j<c.length by omega);obtain⟨v,v1,v2,v3⟩:=g4 j c[j] (by simp);exact⟨v,v1,v2,a1 j _ _ ms U v v3⟩
  ·intro q k o jY eh cD b m aF h1 h2 R aj
   have e1 : ∃o,s.al q k=some o:=by
    rw[bC] at h1;split at h1
    ·rw[dP] at h1;obtain⟨cD,aq,-⟩:=h1;exact⟨cD,aq⟩
    exact⟨o,h1⟩
   have e2 : ∃o,s.al jY eh=some o:=by
    rw[bC] at h2;split at h2
    ·rw[dP] at h2;obtain⟨cD,aq,-⟩:=h2;exact⟨cD,aq⟩
    exact⟨cD,h2⟩
   obtain⟨cf,e1⟩:=e1;obtain⟨aU,e2⟩:=e2;exact h.inj q k cf jY eh aU b m aF e1 e2 R aj
  ·intro q k o b m h1 h2
   rw[bC] at h1;split at h1
   ·rw[dP] at h1;obtain⟨cD,aq,-⟩:=h1;exact h.own q k cD b m aq h2
   exact h.own q k o b m h1 h2
  intro j k ap;rw[lJ,ol];exact h.stay j k ap
 refine {toky:=eY,env:=fun u=> ?_,defers:=h.defers,mf:=h.mf};have:=h.env u;rw[pZ,lJ,ol];exact this
theorem dZ.al6 (h:dZ g s aD a w){a8 r j wR sz:Nat}{cY:hU}{c:List aA}(gi:s.a7 a8=none)(eP:s.a7 r=some [⟨wR,[c],cY⟩])(ap:c[j]? = some .fQ):
 ∃cc,dZ g ((s.setRow a8 [⟨sz,[],.live⟩]).setRow r [⟨wR,[c.set j (.bw a8 0 0 0)],cY⟩]) cc a w:=by
 obtain⟨cc,a2,dc⟩:=h.more (row:=[⟨sz,[],.live⟩]) gi (fun o an=>by simp at an;subst an;rfl);have dX:r≠a8:=by rintro rfl;rw[eP] at gi;simp at gi
 refine⟨cc,dc.alj (c:=c) (by simp[S.setRow,dX,eP]) (by simp) (fun i x dY U fa v bh=> ?_)⟩;rw[art] at fa;split at fa
 ·rename_i e;subst e
  split at fa
  ·simp at fa;subst fa;rw[ap] at U;simp at U;subst U;rw[bh.tB];refine .qQ (sz:=sz) (by simp[S.bi,S.setRow]) ?_;unfold S.bo S.al;rw[show (s.setRow a8 [⟨sz,[],.live⟩]).a7 a8=some [⟨sz,[],.live⟩] by simp[S.setRow],pb];simp[a2]
  simp at fa
 rw[U] at fa;simp at fa;subst fa;exact bh
theorem dZ.zc (h:dZ g s aD a w){a8 t sz:Nat}(gi:s.a7 a8=none)(cv:s.E t = .fQ):
 ∃cc,dZ g {E:=fun u=>if u=t then .bw a8 0 0 0 else s.E u,a7:=(s.setRow a8 [⟨sz,[],.live⟩]).a7} cc a w:=by
 obtain⟨cc,a2,dc⟩:=h.more (row:=[⟨sz,[],.live⟩]) gi (fun o an=>by simp at an;subst an;rfl);refine⟨cc,{toky:=dc.toky.congr rfl,env:=fun u=> ?_,defers:=dc.defers,mf:=dc.mf}⟩;have e1 : ∀B7:S,B7.a7=(s.setRow a8 [⟨sz,[],.live⟩]).a7->Rel w ((s.setRow a8 [⟨sz,[],.live⟩]).ok g cc w) (s.setRow a8 [⟨sz,[],.live⟩]).bi ((s.setRow a8 [⟨sz,[],.live⟩]).bo cc)=Rel w (B7.ok g cc w) B7.bi (B7.bo cc):=fun B7 e=>by rw[HB e,EG e,EH e]
 refine Eq.mp (congrFun (congrFun (e1 {E:=fun u=>if u=t then .bw a8 0 0 0 else s.E u,a7:=(s.setRow a8 [⟨sz,[],.live⟩]).a7} rfl) _) _) ?_;show Rel _ _ _ _ (if u=t then .bw a8 0 0 0 else s.E u) _;split
 ·rename_i e;subst e;have h0:=h.env u;rw[cv] at h0;rw[h0.tB];refine .qQ (sz:=sz) (by simp[S.bi,S.setRow]) ?_;unfold S.bo S.al;rw[show (s.setRow a8 [⟨sz,[],.live⟩]).a7 a8=some [⟨sz,[],.live⟩] by simp[S.setRow],pb];simp[a2]
 exact dc.env u
end
def lN (P:Program)(N m:Nat)(c:Code)(e:Exit)(s cg:S):Prop :=
 ∀(g:G) aD a w,g.N=N->g.m=m->dZ g s aD a w->c.wp P (fun fA eK b5=>fA=e/\ ∃cc,dZ g cg cc eK b5) a w
inductive B8 where
 | normal
 | exit (id:Nat)
 | ret
def B8.x:B8->Exit
 | .normal=> .normal
 | .exit id=> .exit id
 | .ret=> .ret
inductive ks where
 | ah (dV:List (f8×Bool))
 | qK (b:Bool)
 | aS (a3:List Nat) (di:List kg) (rp:List (Nat×n9))
 | xZ (l:List pr) (di:List (List kg×Option kg)) (rp:List (Nat×n9))
 | li (r:Nat)
 | zc (t sz:Nat)
 | ua (r j sz:Nat)
 | Ja
 | sub (e:B8) (env:List (Nat×aA)) (rows:List (List aR))
structure abz where
 e:Exit
 s:S
 a8:Nat
 tape:List ks
 gV:List Prop
def pg (m:Nat):List ks->S->Nat->Option (List ks×S×Nat×List Prop)
 | .aS a3 di rp::tape,s,a8=>match LY m s a3 di rp with
  | some (s1,n1,cf)=>match pg m tape s1 n1 with
   | some (t2,s2,n2,aU)=>some (t2,s2,n2,cf++aU)
   | none=>none
  | none=>none
 | .xZ l di rp::tape,s,a8=>match LJ m s l di rp with
  | some (s1,n1,cf)=>match pg m tape s1 n1 with
   | some (t2,s2,n2,aU)=>some (t2,s2,n2,cf++aU)
   | none=>none
  | none=>none
 | .li r::tape,s,a8=>match s.a7 r with
  | some row=>pg m tape (s.setRow r (oX row)) a8
  | none=>none
 | .zc t sz::tape,s,a8=>match s.E t with
  | .fQ=>pg m tape {E:=fun u=>if u=t then .bw a8 0 0 0 else s.E u,a7:=(s.setRow a8 [⟨sz,[],.live⟩]).a7} (a8+1)
  | _=>none
 | .ua r j sz::tape,s,a8=>match s.a7 r with
  | some [⟨wR,[c],cY⟩]=>match c[j]? with
   | some .fQ=>pg m tape ((s.setRow a8 [⟨sz,[],.live⟩]).setRow r [⟨wR,[c.set j (.bw a8 0 0 0)],cY⟩]) (a8+1)
   | _=>none
  | _=>none
 | .Ja::tape,s,a8=>pg m tape (s.setRow a8 []) (a8+1)
 | tape,s,a8=>some (tape,s,a8,[])
def pV (P:Program)(N m:Nat):Code->List ks->S->Nat->Option abz
 | .skip,tape,s,a8=>some ⟨.normal,s,a8,tape,[]⟩
 | .label _,tape,s,a8=>some ⟨.normal,s,a8,tape,[]⟩
 | .exit id,tape,s,a8=>some ⟨.exit id,s,a8,tape,[]⟩
 | .ret,tape,s,a8=>some ⟨.ret,s,a8,tape,[]⟩
 | .seq x y,tape,s,a8=>match pV P N m x tape s a8 with
  | some ⟨.normal,s1,n1,t1,cf⟩=>match pV P N m y t1 s1 n1 with
   | some ⟨e2,s2,n2,t2,aU⟩=>some ⟨e2,s2,n2,t2,cf++aU⟩
   | none=>none
  | some r=>some r
  | none=>none
 | .block id c,tape,s,a8=>match pV P N m c tape s a8 with
  | some ⟨.exit BI,s1,n1,t1,cf⟩=>some ⟨if BI=id then .normal else .exit BI,s1,n1,t1,cf⟩
  | r=>r
 | .scope c,tape,s,a8=>pV P N m c tape s a8
 | .region _ ops draw,tape,s,a8=>match pg m tape s a8 with
  | some (.ah dV::t1,s1,n1,cf)=>match Hy P N ops draw dV s1 n1 with
   | some (s2,aU)=>some ⟨.normal,s2,n1+ops.size,t1,cf++aU⟩
   | none=>none
  | _=>none
 | .cond x c d,tape,s,a8=>match pg m tape s a8 with
  | some (.sub e env rows::t1,s1,_,cf)=>some ⟨e.x,dv env rows,rows.length,t1,cf++[lN P N m (.cond x c d) e.x s1 (dv env rows)]⟩
  | some (.qK b::t1,s1,n1,cf)=>match ga s1.E x with
   | .b v=>match b with
    | true=>match pV P N m c t1 s1 n1 with
     | some ⟨e2,s2,n2,t2,aU⟩=>some ⟨e2,s2,n2,t2,cf++(v=true)::aU⟩
     | none=>none
    | false=>match pV P N m d t1 s1 n1 with
     | some ⟨e2,s2,n2,t2,aU⟩=>some ⟨e2,s2,n2,t2,cf++(v=false)::aU⟩
     | none=>none
   | _=>none
  | _=>none
 | .loop c,tape,s,a8=>match pg m tape s a8 with
  | some (.sub e env rows::t1,s1,_,cf)=>some ⟨e.x,dv env rows,rows.length,t1,cf++[lN P N m (.loop c) e.x s1 (dv env rows)]⟩
  | _=>none
 | _,_,_,_=>none
section
variable {P:Program} {N m:Nat}
theorem lN.intro {c:Code}{e:Exit}{s cg:S}(h:∀(g:G) aD a w,g.N=N->g.m=m->dZ g s aD a w->c.wp P (fun fA eK b5=>fA=e/\ ∃cc,dZ g cg cc eK b5) a w):lN P N m c e s cg:=h
theorem lN.seq {x y:Code}{e:Exit}{s s1 s2:S}(h1:lN P N m x .normal s s1)(h2:lN P N m y e s1 s2):lN P N m (.seq x y) e s s2:=by intro g aD a w fY hm ak;refine wp_seq (wp_mono (h1 g aD a w fY hm ak) fun fA eK b5 a0=> ?_);obtain⟨rfl,cc,jQ⟩:=a0;exact h2 g cc eK b5 fY hm jQ
theorem lN.akw {x y:Code}{e:Exit}{s s1:S}(h1:lN P N m x e s s1)(he:e≠ .normal):lN P N m (.seq x y) e s s1:=by intro g aD a w fY hm ak;refine wp_seq (wp_mono (h1 g aD a w fY hm ak) fun fA eK b5 a0=> ?_);obtain⟨rfl,jQ⟩:=a0;cases fA<;>first|exact absurd rfl he|exact⟨rfl,jQ⟩
theorem lN.ahJ {c:Code}{id BI:Nat}{s s1:S}(h1:lN P N m c (.exit BI) s s1):lN P N m (.block id c) (if BI=id then .normal else .exit BI) s s1:=by
 intro g aD a w fY hm ak;refine wp_block (wp_mono (h1 g aD a w fY hm ak) fun fA eK b5 a0=> ?_);obtain⟨rfl,jQ⟩:=a0;simp only[Exit.inBlock];split
 ·exact⟨rfl,jQ⟩
 exact⟨rfl,jQ⟩
theorem lN.block {c:Code}{id:Nat}{e:Exit}{s s1:S}(h1:lN P N m c e s s1)(he:∀i,e≠ .exit i):lN P N m (.block id c) e s s1:=by intro g aD a w fY hm ak;refine wp_block (wp_mono (h1 g aD a w fY hm ak) fun fA eK b5 a0=> ?_);obtain⟨rfl,jQ⟩:=a0;cases fA<;>first|exact absurd rfl (he _)|exact⟨rfl,jQ⟩
theorem lN.scope {c:Code}{e:Exit}{s s1:S}(h1:lN P N m c e s s1)(he:∀l,e≠ .goto l):lN P N m (.scope c) e s s1:=by intro g aD a w fY hm ak;refine wp_scope_straight (wp_mono (h1 g aD a w fY hm ak) fun fA eK b5 a0=> ?_);obtain⟨rfl,jQ⟩:=a0;cases fA<;>first|exact absurd rfl (he _)|exact⟨rfl,jQ⟩
theorem Ws {ops:Array Oper}: ∀(l:List Oper) (dV:List (f8×Bool)) (s cg:S) (a8:Nat) (al:List Prop),
 uL P N ops l dV s a8=some (cg,al)->s.nk a8->cg.nk (a8+l.length)
 | [],[],s,cg,a8,al,h,cp=>by simp[uL] at h;obtain⟨rfl,rfl⟩:=h;simpa using cp
 | o::l,hg::dV,s,cg,a8,al,h,cp=>by
  simp only[uL] at h;split at h
  ·rename_i bM ay
   split at h
   ·rename_i s2 I7 h2;simp only[dA,dF] at h;obtain⟨rfl,rfl⟩:=h;have:=Ws l dV (s.aw o bM) s2 (a8+1) I7 h2 (KR ay cp);rw[dI];rw[show a8+(l.length+1)=a8+1+l.length by omega];exact this
   simp at h
  simp at h
 | [],_::_,_,_,_,_,h,_=>by simp[uL] at h
 | _::_,[],_,_,_,_,h,_=>by simp[uL] at h
theorem Wt {ops:Array Oper}: ∀(l:List Oper) (dV:List (f8×Bool)) (s cg:S) (a8:Nat) (lR:List Rec),
 uM P N ops l dV s a8=some (cg,lR)->s.nk a8->cg.nk (a8+l.length)
 | [],[],s,cg,a8,al,h,cp=>by simp[uM] at h;obtain⟨rfl,rfl⟩:=h;simpa using cp
 | o::l,hg::dV,s,cg,a8,al,h,cp=>by
  simp only[uM] at h;split at h
  ·rename_i bM ay
   split at h
   ·rename_i s2 I7 h2;simp only[dA,dF] at h;obtain⟨rfl,rfl⟩:=h;have:=Wt l dV (s.aw o bM) s2 (a8+1) I7 h2 (KR (OU ay) cp);rw[dI];rw[show a8+(l.length+1)=a8+1+l.length by omega];exact this
   simp at h
  simp at h
 | [],_::_,_,_,_,_,h,_=>by simp[uM] at h
 | _::_,[],_,_,_,_,h,_=>by simp[uM] at h
theorem af5 {ops:Array Oper}{draw:Bool}{dV:List (f8×Bool)}{s cg:S}{a8:Nat}{al:List Prop}
 (h:Hy P N ops draw dV s a8=some (cg,al)) (cp:s.nk a8):cg.nk (a8+ops.size):=by
 unfold Hy at h;split at h
 ·split at h
  ·rename_i s2 js ID
   split at h
   ·simp only[dA,dF] at h;obtain⟨rfl,rfl⟩:=h;simpa using Wt _ _ _ _ _ _ ID cp
   simp at h
  simp at h
 simpa using Ws _ _ _ _ _ _ h cp
theorem ahe {s:S}{n r:Nat}{row:List aR}(h:s.nk n)(ak:r<n):(s.setRow r row).nk n:=by
 intro q a0;have:q≠r:=by omega
 simp[S.setRow,this,h q a0]
theorem Ej : ∀(tape:List ks) (s:S) (a8:Nat) (cW:List ks) (cg:S) (qh:Nat) (al:List Prop),pg m tape s a8=some (cW,cg,qh,al)->(∀p∈al,p)->s.nk a8 ->
 cg.nk qh/\ ∀(g:G) aD a w,g.m=m->dZ g s aD a w-> ∃cc,dZ g cg cc a w:=by
 intro tape
 induction tape with
 | nil =>
  intro s a8 cW cg qh al h bC cp;simp[pg] at h;obtain⟨rfl,rfl,rfl,rfl⟩:=h;exact⟨cp,fun g aD a w _ ak=>⟨aD,ak⟩⟩
 | cons x tape ih =>
  intro s a8 cW cg qh al h bC cp
  cases x with
  | aS a3 di rp =>
   simp only[pg] at h;split at h;rotate_left
   ·simp at h
   rename_i s1 n1 cf h1;split at h;rotate_left
   ·simp at h
   rename_i t2 s2 n2 aU h2;simp only[dA,dF] at h;obtain⟨rfl,rfl,rfl,rfl⟩:=h
   have Ic:s1.nk n1:=by
    unfold LY at h1;split at h1
    ·split at h1
     ·simp only[dA,dF] at h1;obtain⟨rfl,rfl,rfl⟩:=h1;exact AL _ _
     simp at h1
    simp at h1
   obtain⟨e1,e2⟩:=ih s1 n1 t2 s2 n2 aU h2 (fun p ai=>bC p (by simp[ai])) Ic;refine⟨e1,fun g aD a w hm ak=> ?_⟩;obtain⟨-,f2⟩:=ajx ak (by rw[hm];exact h1) (fun p ai=>bC p (by simp[ai]));exact e2 g _ a w hm f2
  | xZ l di rp =>
   simp only[pg] at h;split at h;rotate_left
   ·simp at h
   rename_i s1 n1 cf h1;split at h;rotate_left
   ·simp at h
   rename_i t2 s2 n2 aU h2;simp only[dA,dF] at h;obtain⟨rfl,rfl,rfl,rfl⟩:=h
   have Ic:s1.nk n1:=by
    unfold LJ at h1;split at h1
    ·split at h1
     ·simp only[dA,dF] at h1;obtain⟨rfl,rfl,rfl⟩:=h1;exact AL _ _
     simp at h1
    simp at h1
   obtain⟨e1,e2⟩:=ih s1 n1 t2 s2 n2 aU h2 (fun p ai=>bC p (by simp[ai])) Ic;refine⟨e1,fun g aD a w hm ak=> ?_⟩;obtain⟨-,f2⟩:=air ak (by rw[hm];exact h1) (fun p ai=>bC p (by simp[ai]));exact e2 g _ a w hm f2
  | li r =>
   simp only[pg] at h;split at h
   ·rename_i row eP
    have eS:r<a8:=by
     rcases Nat.lt_or_ge r a8 with dc|dc
     ·exact dc
     rw[cp r dc] at eP;simp at eP
    obtain⟨e1,e2⟩:=ih _ a8 cW cg qh al h bC (ahe cp eS);exact⟨e1,fun g aD a w hm ak=>e2 g aD a w hm (ak.freeze eP)⟩
   simp at h
  | zc t sz =>
   simp only[pg] at h;split at h
   ·rename_i cv;obtain⟨e1,e2⟩:=ih _ (a8+1) cW cg qh al h bC (by intro q a0;have:q≠a8:=(by omega);simp[S.setRow,this,cp q (by omega)]);refine⟨e1,fun g aD a w hm ak=> ?_⟩;obtain⟨cc,jQ⟩:=ak.zc (sz:=sz) (cp a8 (dE _)) cv;exact e2 g cc a w hm jQ
   simp at h
  | ua r j sz =>
   simp only[pg] at h;split at h;rotate_left
   ·simp at h
   rename_i wR c cY eP;split at h
   ·rename_i ap
    have eS:r<a8:=by
     rcases Nat.lt_or_ge r a8 with dc|dc
     ·exact dc
     rw[cp r dc] at eP;simp at eP
    obtain⟨e1,e2⟩:=ih _ (a8+1) cW cg qh al h bC (by intro q a0;have h1:q≠a8:=(by omega);have h2:q≠r:=(by omega);simp[S.setRow,h1,h2,cp q (by omega)]);refine⟨e1,fun g aD a w hm ak=> ?_⟩;obtain⟨cc,jQ⟩:=ak.al6 (sz:=sz) (cp a8 (dE _)) eP ap;exact e2 g cc a w hm jQ
   simp at h
  | Ja =>
   simp only[pg] at h;obtain⟨e1,e2⟩:=ih _ (a8+1) cW cg qh al h bC (by intro q a0;have:q≠a8:=(by omega);simp[S.setRow,this,cp q (by omega)]);refine⟨e1,fun g aD a w hm ak=> ?_⟩;obtain⟨cc,-,jQ⟩:=ak.more (row:=[]) (cp a8 (dE _)) (by simp);exact e2 g cc a w hm jQ
  | ah dV=>simp[pg] at h;obtain⟨rfl,rfl,rfl,rfl⟩:=h;exact⟨cp,fun g aD a w _ ak=>⟨aD,ak⟩⟩
  | qK b=>simp[pg] at h;obtain⟨rfl,rfl,rfl,rfl⟩:=h;exact⟨cp,fun g aD a w _ ak=>⟨aD,ak⟩⟩
  | sub e env rows=>simp[pg] at h;obtain⟨rfl,rfl,rfl,rfl⟩:=h;exact⟨cp,fun g aD a w _ ak=>⟨aD,ak⟩⟩
theorem Lm {c:Code}{e:Exit}{s cg:S}(h:∀ {Q:Exit->Act->World->Prop} {a w},Q e a w->c.wp P Q a w)(bS:cg=s):lN P N m c e s cg:=by intro g aD a w _ _ ak;exact h ⟨rfl,aD,by rw[bS];exact ak⟩
theorem ahK (tU:P.follows .mixedOrders=true): ∀(c:Code) (tape:List ks) (s:S) (a8:Nat) (r:abz),pV P N m c tape s a8=some r->(∀p∈r.gV,p)->s.nk a8 ->
 (r.s.nk r.a8/\(∀l,r.e≠ .goto l))/\lN P N m c r.e s r.s:=by
 intro c
 induction c with
 | skip =>
  intro tape s a8 r h bC cp;simp[pV] at h;subst h;exact⟨⟨cp,by simp⟩,Lm wp_skip rfl⟩
 | label l =>
  intro tape s a8 r h bC cp;simp[pV] at h;subst h;exact⟨⟨cp,by simp⟩,Lm wp_label rfl⟩
 | exit id =>
  intro tape s a8 r h bC cp;simp[pV] at h;subst h;exact⟨⟨cp,by simp⟩,Lm wp_exit rfl⟩
 | ret =>
  intro tape s a8 r h bC cp;simp[pV] at h;subst h;exact⟨⟨cp,by simp⟩,Lm wp_ret rfl⟩
 | seq x y aaG anp =>
  intro tape s a8 r h bC cp;simp only[pV] at h;split at h
  ·rename_i s1 n1 t1 cf h1
   split at h
   ·rename_i e2 s2 n2 t2 aU h2;simp only[dA] at h;subst h;obtain⟨⟨f1,-⟩,v1⟩:=aaG _ _ _ _ h1 (fun p ai=>bC p (by simp[ai])) cp;obtain⟨f2,v2⟩:=anp _ _ _ _ h2 (fun p ai=>bC p (by simp[ai])) f1;exact⟨f2,v1.seq v2⟩
   simp at h
  ·rename_i r1 dX h1;simp only[dA] at h;subst h;obtain⟨f1,v1⟩:=aaG _ _ _ _ h1 bC cp;refine⟨f1,v1.akw fun he=> ?_⟩;obtain⟨e1,s1,n1,t1,cf⟩:=r1;simp only at he;subst he;exact dX s1 n1 t1 cf rfl
  simp at h
 | block id c ih =>
  intro tape s a8 r h bC cp;simp only[pV] at h;split at h
  ·rename_i BI s1 n1 t1 cf h1;simp only[dA] at h;subst h;obtain⟨⟨f1,f2⟩,v1⟩:=ih _ _ _ _ h1 bC cp;exact⟨⟨f1,by intro l;simp only;split<;>simp⟩,v1.ahJ⟩
  rename_i dX;obtain⟨f1,v1⟩:=ih _ _ _ _ h bC cp;refine⟨f1,v1.block fun i he=> ?_⟩;obtain⟨e1,s1,n1,t1,cf⟩:=r;simp only at he;subst he;exact dX i s1 n1 t1 cf h
 | scope c ih =>
  intro tape s a8 r h bC cp;simp only[pV] at h;obtain⟨f1,v1⟩:=ih _ _ _ _ h bC cp;exact⟨f1,v1.scope f1.2⟩
 | region id ops draw =>
  intro tape s a8 r h bC cp;simp only[pV] at h;split at h
  ·rename_i dV t1 s1 n1 cf h1
   split at h
   ·rename_i s2 aU h2;simp only[dA] at h;subst h;obtain⟨f1,v1⟩:=Ej _ _ _ _ _ _ _ h1 (fun p ai=>bC p (by simp[ai])) cp;refine⟨⟨af5 h2 f1,by simp⟩,?_⟩;intro g aD a w fY hm ak;obtain⟨nO,kq⟩:=v1 g aD a w hm ak;subst fY;exact afD tU h2 (fun p ai=>bC p (by simp[ai])) f1 kq id fun cc eK b5 dc=>⟨rfl,cc,dc⟩
   simp at h
  simp at h
 | cond x c d anq anr =>
  intro tape s a8 r h bC cp;simp only[pV] at h;split at h
  ·rename_i e env rows t1 s1 n1 cf h1;simp only[dA] at h;subst h;obtain⟨f1,v1⟩:=Ej _ _ _ _ _ _ _ h1 (fun p ai=>bC p (by simp[ai])) cp;have bh:lN P N m (.cond x c d) e.x s1 (dv env rows):=bC _ (by simp);refine⟨⟨AL _ _,by intro l;cases e<;>simp[B8.x]⟩,fun g aD a w fY hm ak=> ?_⟩;obtain⟨nO,kq⟩:=v1 g aD a w hm ak;exact bh g nO a w fY hm kq
  ·rename_i b t1 s1 n1 cf h1
   split at h;rotate_left
   ·simp at h
   rename_i v bh;have a1 : ∀(g:G) aD a w,dZ g s1 aD a w->a.eval x = .bool v:=(by intro g aD a w ak;have:=ak.eval x;rw[bh] at this;exact this.yZ);split at h
   ·split at h
    ·rename_i e2 s2 n2 t2 aU h2;simp only[dA] at h;subst h;obtain⟨f1,v1⟩:=Ej _ _ _ _ _ _ _ h1 (fun p ai=>bC p (by simp[ai])) cp;obtain⟨f2,v2⟩:=anq _ _ _ _ h2 (fun p ai=>bC p (by simp[ai])) f1;have Q3:v=true:=bC _ (by simp);refine⟨f2,fun g aD a w fY hm ak=> ?_⟩;obtain⟨nO,kq⟩:=v1 g aD a w hm ak;exact wp_cond_true (by rw[a1 g nO a w kq,Q3]) (v2 g nO a w fY hm kq)
    simp at h
   split at h
   ·rename_i e2 s2 n2 t2 aU h2;simp only[dA] at h;subst h;obtain⟨f1,v1⟩:=Ej _ _ _ _ _ _ _ h1 (fun p ai=>bC p (by simp[ai])) cp;obtain⟨f2,v2⟩:=anr _ _ _ _ h2 (fun p ai=>bC p (by simp[ai])) f1;have Q3:v=false:=bC _ (by simp);refine⟨f2,fun g aD a w fY hm ak=> ?_⟩;obtain⟨nO,kq⟩:=v1 g aD a w hm ak;exact wp_cond_false (by rw[a1 g nO a w kq,Q3]) (v2 g nO a w fY hm kq)
   simp at h
  simp at h
 | loop c ih =>
  intro tape s a8 r h bC cp;simp only[pV] at h;split at h
  ·rename_i e env rows t1 s1 n1 cf h1;simp only[dA] at h;subst h;obtain⟨f1,v1⟩:=Ej _ _ _ _ _ _ _ h1 (fun p ai=>bC p (by simp[ai])) cp;have bh:lN P N m (.loop c) e.x s1 (dv env rows):=bC _ (by simp);refine⟨⟨AL _ _,by intro l;cases e<;>simp[B8.x]⟩,fun g aD a w fY hm ak=> ?_⟩;obtain⟨nO,kq⟩:=v1 g aD a w hm ak;exact bh g nO a w fY hm kq
  simp at h
 | _=>intro tape s a8 r h;simp[pV] at h
def vF (P:Program)(N m:Nat)(c:Code)(e:Exit)(s cg:S):Prop :=
 ∃n,∀(g:G) aD a w,g.N=N->g.m=m->dZ g s aD a w->Code.rounds P c (fun fA eK b5=>fA=e/\ ∃cc,dZ g cg cc eK b5) n a w
theorem vF.ans {c:Code}{e:Exit}{s cg:S}(h:vF P N m c e s cg):lN P N m (.loop c) e s cg:=by obtain⟨n,h⟩:=h;intro g aD a w fY hm ak;exact wp_loop_rounds n (h g aD a w fY hm ak)
theorem vF.out {c:Code}{e:Exit}{s cg:S}(h:lN P N m c e s cg)(he:e≠ .normal):vF P N m c e s cg:=by refine⟨1,fun g aD a w fY hm ak=> ?_⟩;rw[rounds_succ];refine wp_mono (h g aD a w fY hm ak) fun fA eK b5 a0=> ?_;obtain⟨rfl,jQ⟩:=a0;cases fA<;>first|exact absurd rfl he|exact⟨rfl,jQ⟩
theorem vF.next {c:Code}{e:Exit}{s s1 cg:S}(h:lN P N m c .normal s s1)(h2:vF P N m c e s1 cg):vF P N m c e s cg:=by obtain⟨n,h2⟩:=h2;refine⟨n+1,fun g aD a w fY hm ak=> ?_⟩;rw[rounds_succ];refine wp_mono (h g aD a w fY hm ak) fun fA eK b5 a0=> ?_;obtain⟨rfl,cc,jQ⟩:=a0;exact h2 g cc eK b5 fY hm jQ
inductive cO:List Prop->Prop
 | nil:cO []
 | cons {p:Prop} {l:List Prop} (h:p) (t:cO l):cO (p::l)
theorem cO.c {p:Prop}{l:List Prop}(h:p)(t:cO l):cO (p::l):= .cons h t
theorem cO.aw {l m:List Prop}(h:cO l)(k:cO m):cO (l++m):=by
 induction h with
 | nil=>exact k
 | cons h _ ih=>exact .cons h ih
theorem cO.all {l:List Prop}(h:cO l): ∀p∈l,p:=by
 induction h with
 | nil=>intro p ai;simp at ai
 | cons h t ih =>
  intro q a0;rw[dR] at a0;rcases a0 with rfl|a0
  ·exact h
  exact ih q a0
theorem cO.of : ∀ {l:List Prop},(∀p∈l,p)->cO l
 | [],_=> .nil
 | _::_,h=> .cons (h _ (by simp)) (.of fun p ai=>h p (by simp[ai]))
def MC (P:Program)(N m:Nat)(c:Code)(tape:List ks)(s:S)(a8:Nat):Option (Exit×S×List Prop) :=
 match pV P N m c tape s a8 with
 | some ⟨e,s1,n1,t1,cf⟩=>match pg m t1 s1 n1 with
  | some ([],s2,_,aU)=>some (e,s2,cf++aU)
  | _=>none
 | none=>none
theorem Xq (tU:P.follows .mixedOrders=true){c:Code}{tape:List ks}{s cg:S}{a8:Nat}{e:Exit}{al:List Prop}(h:MC P N m c tape s a8=some (e,cg,al))(bC:cO al)(cp:s.nk a8):
 lN P N m c e s cg:=by
 have bC:=bC.all;unfold MC at h;split at h
 ·rename_i e1 s1 n1 t1 cf h1
  split at h
  ·rename_i s2 n2 aU h2;simp only[dA,dF] at h;obtain⟨rfl,rfl,rfl⟩:=h;obtain⟨⟨f1,-⟩,v1⟩:=ahK tU c tape s a8 _ h1 (fun p ai=>bC p (by simp[ai])) cp;obtain⟨-,v2⟩:=Ej _ _ _ _ _ _ _ h2 (fun p ai=>bC p (by simp[ai])) f1;intro g aD a w fY hm ak;refine wp_mono (v1 g aD a w fY hm ak) fun fA eK b5 a0=> ?_;obtain⟨rfl,cc,jQ⟩:=a0;exact⟨rfl,v2 g cc eK b5 hm jQ⟩
  simp at h
 simp at h
end
def xw (P:Program)(s:S):ResultVar->Option aA
 | .tmp t=>some (s.E t)
 | .cell t f6=>match s.E t with
  | .ref r k i off=>match er (s.a7 r) k with
   | some o=>match o.es[i]? with
    | some c=>uR P f6 c off
    | none=>none
   | none=>none
  | _=>none
def Qu (P:Program)(s:S):List ResultVar->Option aA
 | []=>some (.et [])
 | [x]=>xw P s x
 | [x,y]=>match xw P s x,xw P s y with
  | some a,some b=>some (.et [a,b])
  | _,_=>none
 | [x,y,z]=>match xw P s x,xw P s y,xw P s z with
  | some a,some b,some c=>some (.et [a,b,c])
  | _,_,_=>none
 | _=>none
def PS (tmps:Array Value):ResultVar->Sem Value
 | .tmp t=>pure (tmps.getD t undef)
 | .cell a t=>do loadVar t (<- asAddr (tmps.getD a undef))
theorem ahf (fn:Func)(tmps:Array Value):results fn tmps=(do
 let vs <- fn.results.mapM (PS tmps)
 pure (if h:vs.size=1 then vs[0] else .tuple vs)):=rfl
def A0 (args:List aA)(T:List (List aR)):S:={E:=fun t=>(args[t]?).getD (.et []),a7:=fun r=>T[r]?}
def ZL:Exit->Bool
 | .normal=>true
 | .ret=>true
 | _=>false
def IE (P:Program)(f:FuncId)(args:List aA)(T:List (List aR))(tape:List ks)(a3:List Nat)(di:List kg)(f7:n9):Option (aA×List (List aR)×List Prop) :=
 match P.funcs[f]? with
 | none=>none
 | some fn=>match fn.body with
  | none=>none
  | some c=>if fn.name == "runtime.NumGoroutine" then none else
   match MC P fn.ntmps T.length c tape (A0 args T) T.length with
   | none=>none
   | some (e,s,cf)=>if ZL e && decide a3.Nodup && Ib a3 T.length then
    match Qu P s fn.results.toList with
    | none=>none
    | some r0=>match xG s.a7 (bY a3) (qa a3) a3 di,qY s.a7 (bY a3) (qa a3) k6 f7 r0 with
     | some (i5,aU),some (r,e9)=>some (r,i5,cf++aU++e9)
     | _,_=>none
    else none
section
variable {P:Program}
theorem Ek {g:G}{s:S}{aD:g9}{a:Act}{w:World}(h:dZ g s aD a w){x:ResultVar}{r0:aA}(ak:xw P s x=some r0):
 ∃v,(PS a.tmps x).run P w = .ok v w/\Rel w (s.ok g aD w) s.bi (s.bo aD) r0 v:=by
 cases x with
 | tmp t =>
  simp only[xw,dA] at ak;subst ak;exact⟨_,rfl,h.env t⟩
 | cell t f6 =>
  simp only[xw] at ak;have U:=h.env t;split at ak;rotate_left
  ·simp at ak
  rename_i r k i off jf;rw[jf] at U;split at ak;rotate_left
  ·simp at ak
  rename_i o an;split at ak
  ·rename_i c a1
   have fj:s.al r k=some o:=an;have gO:=h.obj r k o fj;rcases U.AQ (kw fj) with h0|⟨b,m,ai,hval⟩
   ·rw[h0] at gO;simp only[lr] at gO;rw[gO] at a1;simp at a1
   rw[ai] at gO;obtain⟨u,h1,h2⟩:=OQ (P:=P) gO.rd a1 ak;refine⟨u,?_,h2⟩;rw[dG] at h1;simp only[PS,hval,asAddr];simpa [Instr.loadAt,Instr.sureAddr] using h1
  simp at ak
theorem ahL {g:G}{s:S}{aD:g9}{a:Act}{w:World}(h:dZ g s aD a w){fn:Func}{r0:aA}(ak:Qu P s fn.results.toList=some r0):
 ∃v,(results fn a.tmps).run P w = .ok v w/\Rel w (s.ok g aD w) s.bi (s.bo aD) r0 v:=by
 have Md : ∀l,fn.results.toList=l->fn.results=l.toArray:=fun l aZ=>by rw[<- aZ]
 unfold Qu at ak;rw[ahf];split at ak
 ·rename_i aZ;simp only[dA] at ak;subst ak;rw[Md _ aZ];exact⟨.tuple #[],by simp,.et [] rfl (by simp)⟩
 ·rename_i x aZ;rw[Md _ aZ];obtain⟨v,h1,h2⟩:=Ek h ak;exact⟨v,by simp[h1,Sem.run_bind,Result.andThen],h2⟩
 ·rename_i x y aZ
  rw[Md _ aZ];split at ak
  ·rename_i p q ai a0
   simp only[dA] at ak;subst ak;obtain⟨v1,h1,h2⟩:=Ek h ai;obtain⟨v2,R,aj⟩:=Ek h a0;refine⟨.tuple #[v1,v2],by simp[h1,R,Sem.run_bind,Result.andThen],.et [v1,v2] rfl ?_⟩;intro j x v U bh
   match j,U,bh with
   | 0,U,bh=>obtain rfl:=dJ U;obtain rfl:=dJ bh;exact h2
   | 1,U,bh=>obtain rfl:=dJ U;obtain rfl:=dJ bh;exact aj
   | j+2,U,bh=>simp at U
  simp at ak
 ·rename_i x y z aZ
  rw[Md _ aZ];split at ak
  ·rename_i p q t ai a0 cv
   simp only[dA] at ak;subst ak;obtain⟨v1,h1,h2⟩:=Ek h ai;obtain⟨v2,R,aj⟩:=Ek h a0;obtain⟨v3,aq,aM⟩:=Ek h cv;refine⟨.tuple #[v1,v2,v3],by simp[h1,R,aq,Sem.run_bind,Result.andThen],.et [v1,v2,v3] rfl ?_⟩;intro j x v U bh
   match j,U,bh with
   | 0,U,bh=>obtain rfl:=dJ U;obtain rfl:=dJ bh;exact h2
   | 1,U,bh=>obtain rfl:=dJ U;obtain rfl:=dJ bh;exact aj
   | 2,U,bh=>obtain rfl:=dJ U;obtain rfl:=dJ bh;exact aM
   | j+3,U,bh=>simp at U
  simp at ak
 simp at ak
theorem finish {g:G}{s:S}{aD:g9}{a:Act}{w:World}(h:dZ g s aD a w){a3:List Nat}{di:List kg}{f7:n9}{r0 r:aA}{i5:List (List aR)}{aU e9:List Prop}
 (hnd:a3.Nodup) (vP:Ib a3 g.m=true) (h1:xG s.a7 (bY a3) (qa a3) a3 di=some (i5,aU)) (h2:qY s.a7 (bY a3) (qa a3) k6 f7 r0=some (r,e9)) (tY : ∀p∈aU,p) (QX : ∀p∈e9,p)
 {v:Value} (bh:Rel w (s.ok g aD w) s.bi (s.bo aD) r0 v) :
 ∃cc,ky g (gr i5) cc w/\Rel w ((gr i5).ok g cc w) (gr i5).bi ((gr i5).bo cc) r v:=by
 obtain⟨e1,e2⟩:=Pk h.toky (LZ hnd) a3 di i5 aU h1 tY;have BJ:j2 s (qa a3) k6 o5 r0 r:=HD h.toky (LZ hnd) (zo _) h2 QX trivial bh;have ee:tZ s (qa a3) k6 o5 (gr i5).a7:=Y7 hnd e1 e2;have Iy:=XT h.toky vP;have iD : ∀b,(gr i5).oW (mh aD (qa a3)) b->s.oW aD b:=fun b aZ=>by obtain⟨q,k,o,m,h1,h2,R,-⟩:=ee.live (cg:=gr i5) b aZ;exact⟨q,k,o,m,h1,h2,R⟩
 have H7 : ∀j k,g.sD j k->(gr i5).bi j k/\((gr i5).bo (mh aD (qa a3)) j k=g.vK j k\/(gr i5).bo (mh aD (qa a3)) j k=none):=by
  intro j k ap;obtain⟨e1,e2⟩:=h.stay j k ap;refine⟨ee.bi j k j k (Iy j k ap) e1,?_⟩;rcases ee.Mw (cg:=gr i5) (aD:=aD) (Iy j k ap) with e|e
  ·rw[e];exact e2
  exact .inr e
 obtain⟨f1,f2⟩:=h.toky.RH (cg:=gr i5) ee h.i3 H7 h.low h.mlt h.qD (fun r k o b m _ an ai=>h.own r k o b m an ai)
  (fun b aO=>⟨aO.1,aO.2.1,fun aZ=>aO.2.2 (iD b aZ)⟩)
  (fun q k o b m an _ ak ai=>by
    have bC:=h.obj q k o an;rw[ai] at bC;obtain⟨c,f6,e1,-⟩:=bC;refine⟨(arD.1 e1).1,?_,fun aZ=> ?_⟩
    ·rcases h.own q k o b m an ai with e|e
     ·exact .inr (.inl e)
     exact .inr (.inr e)
    obtain⟨fN,eh,cD,aF,f1,f2,f3,⟨yj,JM,f4⟩⟩:=ee.live (cg:=gr i5) b aZ;obtain⟨rfl,rfl⟩:=h.inj q k o fN eh cD b m aF an f1 ai f3;exact ak yj JM f4)
 exact⟨_,f1,f2 BJ bh⟩
theorem XW (tU:P.follows .mixedOrders=true){f:FuncId}{args:List aA}{T:List (List aR)}{tape:List ks}{a3:List Nat}{di:List kg}{f7:n9}{r:aA}{i5:List (List aR)}{al:List Prop}
 (h:IE P f args T tape a3 di f7=some (r,i5,al)) (bC:cO al):Con P f args T r i5:=by
 have bC:=bC.all;unfold IE at h;split at h
 ·simp at h
 rename_i fn aaH;split at h
 ·simp at h
 rename_i c a1;split at h
 ·simp at h
 rename_i al7;split at h
 ·simp at h
 rename_i e s cf pZ;split at h;rotate_left
 ·simp at h
 rename_i ZM;simp only[dO,decide_eq_true_eq] at ZM;obtain⟨⟨Fi,hnd⟩,vP⟩:=ZM;split at h
 ·simp at h
 rename_i r0 oo;split at h;rotate_left
 ·simp at h
 rename_i qi aU r2 e9 h1 h2;simp only[dA,dF] at h;obtain⟨rfl,rfl,rfl⟩:=h;refine⟨⟨fn,aaH,by simpa using al7,by simp[a1]⟩,?_⟩;intro g aD w vs hw hm BF ol eY gh hargs;have Ic:(A0 args T).nk T.length:=by intro q a0;simp[A0,a0]
 have aqp:=eY
 let hs:G:={g with N:=fn.ntmps}
 have gO:dZ hs (A0 args T) aD {tmps:=vs++Array.replicate (fn.ntmps-vs.size) undef,defers:=[]} w:=by
  have MD:(A0 args T).a7=(gr T).a7:=rfl;have tg:ky g (A0 args T) aD w:=eY.congr MD;have wS:ky hs (A0 args T) aD w:=⟨tg.obj,tg.inj,tg.own,⟨tg.i3.os,tg.i3.tape,tg.i3.output,tg.i3.size,tg.i3.block⟩,tg.mlt,tg.qD,tg.stay,tg.low⟩;refine {toky:=wS,env:=fun t=> ?_,defers:=rfl,mf:=by simp[hs];omega}
  have e1:(vs++Array.replicate (fn.ntmps-vs.size) undef).getD t undef=(vs[t]?).getD undef:=by
   rw[ary,Array.getElem?_append];split
   ·rfl
   rename_i eS;rw[Array.getElem?_replicate];have:vs[t]? = none:=(by simp;omega);rw[this];split<;>rfl
  show Rel _ _ _ _ ((args[t]?).getD (.et [])) _;rw[e1]
  cases U:args[t]? with
  | none =>
   have:vs[t]? = none:=(by rw[List.getElem?_eq_none_iff] at U;simp;omega);rw[this];exact Xi
  | some x =>
   have eS:=gD U;have bh:vs[t]? = some vs[t]:=aro (by omega);rw[bh];have:=hargs t x _ U bh;rw[<- HB MD,<- EG MD,<- EH MD] at this;exact this
 have bh:=Xq tU pZ (by exact cO.of fun p ai=>bC p (by simp[ai])) Ic hs aD _ w rfl hm gO;refine calls_of_wp aaH a1 (wp_mono bh fun fA eK b5 a0=> ?_);obtain⟨rfl,cc,jQ⟩:=a0;obtain⟨v,v1,v2⟩:=ahL (P:=P) jQ oo;obtain⟨oA,f1,f2⟩:=finish jQ hnd (by rw[show hs.m=T.length from hm];exact vP) h1 h2 (fun p ai=>bC p (by simp[ai])) (fun p ai=>bC p (by simp[ai])) v2;have Z8:eK.defers=[]/\ ∃v,(results fn eK.tmps).run P b5 = .ok v b5/\ ∃aaI cc,Ending.returned v=Ending.returned aaI/\ky g (gr qi) cc b5/\Rel b5 ((gr qi).ok g cc b5) (gr qi).bi ((gr qi).bo cc) r2 aaI:=by refine⟨jQ.defers,v,v1,v,oA,rfl,?_,f2⟩;exact⟨f1.obj,f1.inj,f1.own,⟨f1.i3.os,f1.i3.tape,f1.i3.output,f1.i3.size,f1.i3.block⟩,f1.mlt,f1.qD,f1.stay,f1.low⟩
 cases fA<;>simp only[ZL,arA] at Fi
 ·exact Z8
 exact Z8
theorem ais (tU:P.follows .mixedOrders=true){f:FuncId}{args:List aA}{tape:List ks}{f7:n9}{r:aA}{al:List Prop}
 (h:IE P f args [] tape [] [] f7=some (r,[],al)) (bC:cO al):Con P f args [] r []:=XW tU h bC
end
def bk {α:Type}(o:Option α)(Q:α->Prop):Prop:= ∀r,o=some r->Q r
section
variable {α β:Type} {Q:α->Prop}
theorem bk.ite {b:Bool}{x y:Option α}(h1:b=true->bk x Q)(h2:b=false->bk y Q):bk (if b=true then x else y) Q:=by
 cases b
 ·exact h2 rfl
 exact h1 rfl
theorem bk.bJ {o:Option β}{f:β->Option α}(h:∀x,o=some x->bk (f x) Q):bk (o >>= f) Q:=by
 cases o with
 | none=>intro r ak;simp at ak
 | some x=>exact h x rfl
theorem bk.gR {p:Prop}[Decidable p] {x:Option α} (h:p->bk x Q):bk (if p then x else none) Q:=by
 by_cases ai:p
 ·rw[dz ai];exact h ai
 rw[dB ai];intro r ak;simp at ak
theorem bk.ret {r:α}(h:Q r):bk (some r) Q:=by intro x U;obtain rfl:=dJ U;exact h
end
theorem bk.FD {α:Type}{Q:α->Prop}:bk (none:Option α) Q:=by intro r ak;simp at ak
def nodeAt:Code->List Nat->Code
 | c,[]=>c
 | .seq x _,0::l=>nodeAt x l
 | .seq _ y,1::l=>nodeAt y l
 | .cond _ x _,0::l=>nodeAt x l
 | .cond _ _ y,1::l=>nodeAt y l
 | .block _ x,0::l=>nodeAt x l
 | .loop x,0::l=>nodeAt x l
 | .scope x,0::l=>nodeAt x l
 | _,_=> .skip
def PT (P:Program)(f:FuncId):Code :=
 match P.funcs[f]? with
 | some fn=>match fn.body with
  | some c=>c
  | none=> .skip
 | none=> .skip
theorem PC {α β:Type}{f:α->β}{l:List α}{i:Nat}{x:α}(h:l[i]? = some x):(l.map f)[i]? = some (f x):=by rw[dK,h];rfl
theorem Yw {α β:Type}{f:α->β}{l:List α}{j:Int}(h:j<l.length):j<((l.map f).length:Nat):=by rw[arC];exact h
theorem Y9 {α β:Type}{f:α->β}{l:List α}{j:Nat}(h:j<l.length):j<(l.map f).length:=by rw[arC];exact h
def iter {α β:Type}(f:α->Option (α⊕β))(a:α):Option β:=do
 match <- f a with
 | .inl eK=>iter f eK
 | .inr r=>some r
partial_fixpoint
abbrev aoL:f8×Bool:=(.none,true)
abbrev aoM:f8×Bool:=(.none,false)
abbrev ii:n9:= .a6 (.cr .id)
abbrev J (x:Int):Int:=IntKind.wrap .i64 x
section
variable {P:Program} {N m:Nat} {α β:Type}
theorem akx {c:Code}{f:α->Option (α⊕β)}{head:α->S}{j1:β->Exit}{out:β->S}(hex:∀r,j1 r≠ .normal)
 (h : ∀a,bk (f a) (Sum.elim (fun eK=>lN P N m c .normal (head a) (head eK)) (fun r=>lN P N m c (j1 r) (head a) (out r)))) : ∀a r,iter f a=some r->vF P N m c (j1 r) (head a) (out r):=by
 apply iter.partial_correctness f (fun a r=>vF P N m c (j1 r) (head a) (out r));intro it ih a r ak
 cases cp:f a with
 | none=>rw[cp] at ak;simp at ak
 | some x =>
  have U:=h a x cp;rw[cp] at ak
  cases x with
  | inl eK =>
   have jQ:it eK=some r:=ak;exact vF.next U (ih eK r jQ)
  | inr fN =>
   have jQ:some fN=some r:=ak;obtain rfl:=dJ jQ;exact vF.out U (hex _)
theorem b0 {a:Bool}(h:a=true):(!a)=false:=by rw[h];rfl
theorem cb {a:Bool}(h:a=false):(!a)=true:=by rw[h];rfl
theorem oe {bV:Type}{raw:List (List aA)}{f:bV->List aA}{l:List bV}(e:raw=l.map f){i:Nat}{x:bV}(h:l[i]? = some x):raw[i]? = some (f x):=by rw[e];exact PC h
theorem Za {bV:Type}{raw:List (List aA)}{f:bV->List aA}{l:List bV}(e:raw=l.map f){j:Nat}(h:j<l.length):j<raw.length:=by rw[e];exact Y9 h
theorem sj {bV:Type}{raw:List (List aA)}{f:bV->List aA}{l:List bV}(e:raw=l.map f)(i:Nat)(x:bV):raw.set i (f x)=(l.set i x).map f:=by rw[e,List.map_set]
theorem lX {bV:Type}(f:bV->List aA)(n:Nat)(x:bV):List.replicate n (f x)=(List.replicate n x).map f:=by rw[List.map_replicate]
theorem oF {bV:Type}{raw:List (List aA)}{f:bV->List aA}{l:List bV}(e:raw=l.map f)(i n:Nat):(raw.drop i).take n=((l.drop i).take n).map f:=by rw[e,List.map_take,List.map_drop]
theorem aky {bV:Type}{raw:List (List aA)}{f:bV->List aA}{l:List bV}(e:raw=l.map f):raw.length=l.length:=by rw[e,arC]
theorem Pl {bV:Type}{raw:List (List aA)}{f:bV->List aA}{l:List bV}(e:raw=l.map f)(i n:Nat):((l.drop i).take n).map f=(raw.drop i).take n:=(oF e i n).symm
theorem sk {bV:Type}{raw:List (List aA)}{f:bV->List aA}{l:List bV}(e:raw=l.map f){n:Nat}(h:n<=l.length):n<=raw.length:=by rw[aky e];exact h
theorem d8 {bV:Type}{f:bV->List aA}(cp:∀x,∀v∈f x,Pure v)(l:List bV):j3 (l.map f):=by intro e he v bh;rw[List.mem_map] at he;obtain⟨x,-,rfl⟩:=he;exact cp x v bh
theorem akz {bV:Type}{raw:List (List aA)}{f:bV->List aA}{l:List bV}{sz:Nat}{cY:hU}(e:raw=l.map f):[aR.mk sz raw cY]=[aR.mk sz (l.map f) cY]:=by rw[e]
theorem ajz {bV:Type}{f:bV->List aA}(cp:∀x,∀v∈f x,Pure v){sz:Nat}{cY:hU}(l:List bV):AR [aR.mk sz (l.map f) cY]:=by intro o an;rw[List.mem_singleton] at an;subst an;exact d8 cp l
theorem oU {c:List aA}(h:∀v∈c,Pure v):j3 [c]:=by intro e he;rw[List.mem_singleton] at he;subst he;exact h
theorem nn : ∀x∈([]:List aA),bD x:=by simp
theorem hO {x:aA}{l:List aA}(h:bD x)(t:∀y∈l,bD y): ∀y∈x::l,bD y:=by
 intro y aY;rw[dR] at aY;rcases aY with rfl|aY
 ·exact h
 exact t y aY
theorem tG {l:List aA}(h:∀y∈l,bD y):bD (.et l):= .et h
def aE {bV:Type}(f:bV->List aA)(l:List bV):Int:=((l.map f).length:Nat)
theorem fh {bV:Type}(f:bV->List aA)(l:List bV):aE f l=l.length:=by simp[aE]
def eI (x:Int):List aA:=[.n .i64 x]
def gX (x:Bool):List aA:=[.b x]
def B9 (x:ByteArray):List aA:=[.s x]
theorem cy : ∀x,∀v∈eI x,Pure v:=by intro x v bh;simp[eI] at bh;subst bh;exact .n _ _
theorem fF : ∀x,∀v∈gX x,Pure v:=by intro x v bh;simp[gX] at bh;subst bh;exact .b _
theorem Yx : ∀x,∀v∈B9 x,Pure v:=by intro x v bh;simp[B9] at bh;subst bh;exact .s _
def fP {bV:Type}(sz:Nat)(f:bV->List aA)(l:List bV):List aA:=[.isl sz (l.map f)]
theorem qR {bV:Type}{sz:Nat}{f:bV->List aA}(cp:∀x,∀v∈f x,Pure v): ∀l,∀v∈fP sz f l,Pure v:=by intro l v bh;simp[fP] at bh;subst bh;exact .isl (d8 cp l)
def jx {bV:Type}(sz:Nat)(f:bV->List aA)(x:Option bV):aA:= .hr sz (x.map f)
def fD {bV:Type}(sz:Nat)(f:bV->List aA)(x:Option bV):List aA:=[jx sz f x]
theorem akA {bV:Type}{sz:Nat}{f:bV->List aA}(cp:∀x,∀v∈f x,Pure v)(x:Option bV):Pure (jx sz f x):=by
 cases x with
 | none=>exact .s9 _
 | some x=>exact .sw (cp x)
theorem qS {bV:Type}{sz:Nat}{f:bV->List aA}(cp:∀x,∀v∈f x,Pure v): ∀x,∀v∈fD sz f x,Pure v:=by intro x v bh;simp[fD] at bh;subst bh;exact akA cp x
theorem akB {bV:Type}{sz:Nat}{f:bV->List aA}{x:Option bV}(h:x=none):jx sz f x = .hr sz none:=by rw[h];rfl
theorem akC {bV:Type}{sz:Nat}{f:bV->List aA}{x:Option bV}{y:bV}(h:x=some y):jx sz f x = .hr sz (some (f y)):=by rw[h];rfl
theorem bk.m6 {α bV:Type}{Q:α->Prop}{o:Option bV}{x:Option α}{f:bV->Option α}(h1:o=none->bk x Q)(h2:∀y,o=some y->bk (f y) Q):bk (o.elim x f) Q:=by
 cases o with
 | none=>exact h1 rfl
 | some y=>exact h2 y rfl
theorem bk.sum {α β bV:Type}{Q:bV->Prop}{s:α⊕β}{f:α->Option bV}{g:β->Option bV}(h1:∀a,s = .inl a->bk (f a) Q)(h2:∀b,s = .inr b->bk (g b) Q):
 bk (match s with | .inl a=>f a | .inr b=>g b) Q:=by
 cases s with
 | inl a=>exact h1 a rfl
 | inr b=>exact h2 b rfl
theorem sX {bV:Type}{n:Nat}{l:List bV}(h:n=l.length)(i:Nat)(x:bV):n=(l.set i x).length:=by rw[List.length_set];exact h
theorem my {bV:Type}(n:Nat)(x:bV):n=(List.replicate n x).length:=by rw[List.length_replicate]
theorem pE {bV:Type}{raw:List (List aA)}{f:bV->List aA}{l:List bV}(e:raw=l.map f){n:Nat}(h:n=l.length):(raw.drop 0).take n=l.map f:=by rw[e,h,List.drop_zero,arp (by simp)]
theorem mK {bV:Type}{rx oC:List (List aA)}{f:bV->List aA}{xs bW:List bV}(j1:rx=xs.map f){n:Nat}(h:n=xs.length)(kZ:oC=bW.map f):rx.take n++oC=(xs++bW).map f:=by rw[j1,kZ,h,arp (by simp),List.map_append]
theorem Pm {bV:Type}{rx oC:List (List aA)}{f:bV->List aA}{xs bW:List bV}(j1:rx=xs.map f)(n:Nat)(kZ:oC=bW.map f):rx.take n++oC=(xs.take n++bW).map f:=by rw[j1,kZ,List.map_append,List.map_take]
theorem nl {bV:Type}{raw:List (List aA)}{f:bV->List aA}{l:List bV}(e:raw=l.map f){n:Nat}(h:n=l.length):0+n<=raw.length:=by rw[e,h];simp
theorem nT {bV:Type}{raw:List (List aA)}{f:bV->List aA}{l:List bV}(e:raw=l.map f){n:Nat}(h:n=l.length):n<=raw.length:=by rw[e,h];simp
theorem alk {bV:Type}{raw:List (List aA)}{f:bV->List aA}{l:List bV}(e:raw=l.map f):l.length=raw.length:=by rw[e];simp
theorem mz {bV:Type}{oC:List (List aA)}{f:bV->List aA}{xs bW:List bV}{n:Nat}(h:n=xs.length)(kZ:oC=bW.map f):(xs++bW).length=n+oC.length:=by rw[kZ,h];simp
theorem Pn {bV:Type}{oC:List (List aA)}{f:bV->List aA}{xs bW:List bV}{n:Nat}(h:n<=xs.length)(kZ:oC=bW.map f):(xs.take n++bW).length=n+oC.length:=by rw[kZ];simp;omega
theorem od {bV:Type}{raw:List (List aA)}{f:bV->List aA}{l:List bV}(e:raw=l.map f){n:Nat}(h:n=l.length):l.map f=(raw.drop 0).take n:=(pE e h).symm
theorem ait {bV:Type}{f:bV->List aA}(cp:∀x,∀v∈f x,Pure v){sz:Nat}(l:List bV):yL [aR.mk sz (l.map f) .live]:=by intro o an;rw[List.mem_singleton] at an;subst an;exact⟨d8 cp l,rfl⟩
theorem mL {bV:Type}{raw:List (List aA)}{f:bV->List aA}{l:List bV}(e:raw=l.map f)(i:Nat){c:List aA}(x:bV)(a1:c=f x):raw.set i c=(l.set i x).map f:=by rw[e,a1,List.map_set]
theorem Con.kT {P:Program}{f:FuncId}{sz:Nat}{T:List (List aR)}{r:aA}{i5:List (List aR)}(h1:Con P f [.fQ] T r i5)(h2:Con P f [.kM] T r i5):Con P f [.isl sz []] T r i5:=by
 refine⟨h1.1,?_⟩;intro g aD w vs hw hm BF ol eY gh hargs;have h0:0<vs.size:=by rw[gh];simp
 have bh:=hargs 0 (.isl sz []) vs[0] rfl (aro h0)
 have key : ∀y:aA,Rel w ((gr T).ok g aD w) (gr T).bi ((gr T).bo aD) y vs[0]-> ∀(j:Nat) x v,[y][j]? = some x->vs[j]? = some v->Rel w ((gr T).ok g aD w) (gr T).bi ((gr T).bo aD) x v:=by
  intro y aY j x v U bh
  match j,U,bh with
  | 0,U,bh =>
   obtain rfl:=dJ U;rw[aro h0] at bh;obtain rfl:=dJ bh;exact aY
  | j+1,U,bh=>simp at U
 rcases bh.xr with ⟨-,a,c,he,bH⟩|⟨fv,off,c,-,he,-⟩
 ·cases a with
  | none =>
   have:=bH rfl;subst this;exact h1.2 g aD w vs hw hm BF ol eY gh (key .fQ (by rw[he];exact .fQ))
  | some a=>exact h2.2 g aD w vs hw hm BF ol eY gh (key .kM (by rw[he];exact .kM a c))
 exact h2.2 g aD w vs hw hm BF ol eY gh (key .kM (by rw[he];exact .kM _ c))
end
open Go Go.ChangeShapes Go.WideShapes Go.RowKit
def lV (w:World)(c:List aA)(cs:List Value):Prop :=
 cs.length=c.length/\ ∀(j:Nat) x v,c[j]? = some x->cs[j]? = some v->mO v=true/\Rel w (fun b=>b<w.heap.size) (fun _ _=>False) (fun _ _=>none) x v
theorem lV.nil (w:World):lV w [] []:=⟨rfl,fun j x v U=>by simp at U⟩
theorem lV.one {w:World}{x:aA}{v:Value}(a1:mO v=true)(h:Rel w (fun b=>b<w.heap.size) (fun _ _=>False) (fun _ _=>none) x v):lV w [x] [v]:=by
 refine⟨rfl,fun j y u aY hu=> ?_⟩
 match j,aY,hu with
 | 0,aY,hu=>obtain rfl:=dJ aY;obtain rfl:=dJ hu;exact⟨a1,h⟩
 | j+1,aY,hu=>simp at aY
structure sq (P:Program) (w:World) (t:TypeId) {α:Type} (f:α->List aA) (fG:α->Prop):Prop where
 pure : ∀a,∀v∈f a,Pure v
 size : ∀a,(f a).length=P.cellsOf t
 opens : ∀ {H:Type} {enc:TypeId×Value->H} {base:Nat} {spare:Nat->Bool} {held:Bool} {tT:Nat} {cs:List Value} {x:DataW H×List MemPlace},
  DataW.trod enc P w base spare held tT t cs=some x-> ∃a,fG a/\lV w (f a) cs
section
variable {P:Program} {w:World} {t:TypeId}
def nV (x:Int):Prop:=(Lit.int .i64 x).wf=true
theorem wk (cv:P.underlying t=some (.int .i64))(a1:P.cellsOf t=1):sq P w t eI nV where
 pure:=cy
 size:=fun a=>a1.symm
 opens:=fun h=>by obtain⟨n,rfl,-,hw⟩:=DataW.trod_int cv h;exact⟨n,hw,.one rfl (.n _ _)⟩
theorem ahM (cv:P.underlying t=some .bool)(a1:P.cellsOf t=1):sq P w t gX (fun _=>True) where
 pure:=fF
 size:=fun a=>a1.symm
 opens:=fun h=>by obtain⟨n,rfl,-⟩:=DataW.trod_bool cv h;exact⟨n,trivial,.one rfl (.b _)⟩
theorem agQ (cv:P.underlying t=some .string)(a1:P.cellsOf t=1):sq P w t B9 (fun s=>s.size<=maxLen) where
 pure:=Yx
 size:=fun a=>a1.symm
 opens:=fun h=>by obtain⟨n,rfl,-,hw⟩:=DataW.trod_string cv h;exact⟨n,hw,.one rfl (.s _)⟩
theorem Yy {α:Type}{Q:Nat->α->Prop}: ∀(n:Nat),(∀i,i<n-> ∃a,Q i a)-> ∃l:List α,l.length=n/\ ∀(i:Nat) a,l[i]? = some a->Q i a
 | 0,_=>⟨[],rfl,fun i a h=>by simp at h⟩
 | n+1,h=>by
  obtain⟨l,h1,h2⟩:=Yy n fun i aa=>h i (by omega);obtain⟨a,bH⟩:=h n (by omega);refine⟨l++[a],by simp[h1],fun i x U=> ?_⟩;rw[List.getElem?_append] at U;split at U
  ·exact h2 i x U
  have:i=l.length:=(by have:=gD U;simp at this;omega);subst this;simp at U;subst U;rw[h1];exact bH
theorem KM {e:TypeId}{α:Type}{f:α->List aA}{fG:α->Prop}{sz:Nat}(cv:P.underlying t=some (.slice e))(a1:P.cellsOf t=1)(gh:P.cellsOf e=sz)(mC:0<sz)(he:sq P w e f fG):
 sq P w t (fP sz f) (fun l=>l.length<=maxLen/\ ∀x∈l,fG x) where
 pure:=qR he.pure
 size:=fun a=>a1.symm
 opens:=fun h=>by
  rcases DataW.trod_slice cv h with ⟨rfl,-⟩|⟨a,len,cap,elems,rest,n,_,rfl,rfl,aO,aZ,hm,hlen,pH,aau,IQ⟩
  ·exact⟨[],⟨by simp,by simp⟩,.one rfl (.kT _ _ _ (fun _=>rfl))⟩
  subst gh;have each : ∀i,i<len-> ∃x,fG x/\ ∀j,j<P.cellsOf e-> ∃y v,(f x)[j]? = some y/\w.cell? ((a.add (i*P.cellsOf e)).add j)=some v/\mO v=true/\Rel w (fun b=>b<w.heap.size) (fun _ _=>False) (fun _ _=>none) y v:=(by intro i aa;have h1:=pH i aa;rw[dy (by omega),Option.bind_eq_some_iff] at h1;obtain⟨om,h2,R⟩:=h1;obtain⟨x,aj,aq,aM⟩:=he.opens R;refine⟨x,aj,fun j ap=> ?_⟩;obtain⟨-,a6,cw⟩:=World.cells?_some h2;have aY:(f x)[j]? = some (f x)[j]:=dy (by rw[he.size];exact ap);have bh:om[j]? = some om[j]:=dy (by omega);obtain⟨d1,d2⟩:=aM j _ _ aY bh;exact⟨_,_,aY,by rw[cw j ap,bh],d1,d2⟩);obtain⟨l,lo,lQ⟩:=Yy len each;refine⟨l,⟨by omega,fun x U=> ?_⟩,.one rfl ?_⟩
  ·obtain⟨i,aa⟩:=arB U;exact(lQ i x aa).1
  rcases Nat.eq_zero_or_pos len with h0|h0
  ·subst h0;have:l=[]:=dM.1 lo;subst this;exact .kT _ _ _ (by simp)
  obtain⟨fv,off,spot⟩:=a
  have al8:spot=none/\fv<w.heap.size:=by
   obtain⟨x,-,h2⟩:=each 0 h0;obtain⟨y,v,-,R,-⟩:=h2 0 mC;simp only[Nat.zero_mul,Addr.add,if_true] at R;unfold World.cell? at R
   cases hn:w.heap[fv]? with
   | none=>simp[hn] at R
   | some o =>
    have eS:=(arD.1 hn).1;refine⟨?_,eS⟩;simp only[hn] at R;cases o<;>simp at R
    cases spot with
    | none=>rfl
    | some _=>simp at R
  obtain⟨rfl,xN⟩:=al8;have kN:r7 w (fun b=>b<w.heap.size) (fun _ _=>False) (fun _ _=>none) fv off (P.cellsOf e) (l.map f):=(by have hle : ∀z∈l.map f,z.length=P.cellsOf e:=(by intro z cK;rw[List.mem_map] at cK;obtain⟨x,-,rfl⟩:=cK;exact he.size x);refine⟨hle,fun j x U=> ?_⟩;have ap:j<len*P.cellsOf e:=(by have:=gD U;rw[we _ hle,arC,lo] at this;exact this);have aa:j / P.cellsOf e<len:=Nat.div_lt_of_lt_mul (by rw[Nat.mul_comm];exact ap);have ak:j % P.cellsOf e<P.cellsOf e:=Nat.mod_lt _ mC;have u5:j=j / P.cellsOf e*P.cellsOf e+j % P.cellsOf e:=(by rw[Nat.mul_comm];exact(Nat.div_add_mod j _).symm);have aaJ:l[j / P.cellsOf e]? = some (l[j / P.cellsOf e]'(by omega)):=dy _;have ant:(l.map f)[j / P.cellsOf e]? = some (f (l[j / P.cellsOf e]'(by omega))):=PC aaJ;obtain⟨y,v,e1,e2,bG,cR⟩:=(lQ _ _ aaJ).2 _ ak;have mg:=Hq hle ant ak;rw[<- u5,U,e1] at mg;obtain rfl:=dJ mg;refine⟨v,?_,bG,cR⟩;rw[vv,vv] at e2;rw[u5];rw[Nat.add_assoc] at e2;exact e2);have:=kN.isl (c:=cap) ⟨xN,d8 he.pure l⟩ (by rw[arC];omega);rw[arC,lo] at this;exact this
theorem lV.aw {a6 cw:List aA}{cs:List Value}{o n:Nat}(h1:lV w a6 ((cs.drop o).take n))(h2:lV w cw (cs.drop (o+n)))(a2:a6.length=n):lV w (a6++cw) (cs.drop o):=by
 obtain⟨e1,e2⟩:=h1;obtain⟨f1,f2⟩:=h2;have alm:cs.drop o=(cs.drop o).take n++cs.drop (o+n):=by rw[<- List.drop_drop,List.take_append_drop]
 rw[alm];refine⟨by rw[dD,dD,e1,f1],fun j x v U bh=> ?_⟩;rw[List.getElem?_append] at U bh;rw[e1] at bh;split at U
 ·rename_i ap;rw[dz ap] at bh;exact e2 j x v U bh
 rename_i ap;rw[dB ap] at bh;exact f2 _ x v U bh
theorem KD {nB:Array Field}(cv:P.underlying t=some (.struct nB)){H:Type}{enc:TypeId×Value->H}{base:Nat}{spare:Nat->Bool}{held:Bool}{tT:Nat}{cs:List Value}{x:DataW H×List MemPlace}
 (h:DataW.trod enc P w base spare held tT t cs=some x) :
 cs.length=P.cellsOf t/\ ∀(i:Nat) (fd:Field),nB[i]? = some fd-> ∀ {α:Type} {f:α->List aA} {fG:α->Prop},sq P w fd.type f fG-> ∃a,fG a/\lV w (f a) ((cs.drop fd.offset).take (P.cellsOf fd.type)):=by
 obtain⟨xs,n,-,-,h1,h2,R⟩:=DataW.trod_struct cv h;refine⟨h1,fun i fd zj α f fG an=> ?_⟩;have aa:i<xs.length:=by rw[h2];exact(arD.1 zj).1
 have aj:=R i fd zj;rw[dy aa] at aj;exact an.opens aj
theorem tC {nB:Array Field}{cs:List Value}
 (h : ∀(i:Nat) (fd:Field),nB[i]? = some fd-> ∀ {α:Type} {f:α->List aA} {fG:α->Prop},sq P w fd.type f fG-> ∃a,fG a/\lV w (f a) ((cs.drop fd.offset).take (P.cellsOf fd.type)))
 (i off n:Nat) {fd:Field} (zj:nB[i]? = some fd) (an:fd.offset=off) (a2:P.cellsOf fd.type=n) {α:Type} {f:α->List aA} {fG:α->Prop} (o:sq P w fd.type f fG) : ∃a,fG a/\lV w (f a) ((cs.drop off).take n):=by
 subst an;subst a2;exact h i fd zj o
theorem lV.end_ {cs:List Value}{n:Nat}(h:cs.length<=n):lV w [] (cs.drop n):=by rw[List.drop_of_length_le h];exact .nil w
theorem agR {x:aA}{v:Value}(h:lV w [x] v.cells.toList)(bh:∀cs,v≠ .agg cs):Rel w (fun b=>b<w.heap.size) (fun _ _=>False) (fun _ _=>none) x v:=by
 have a1:v.cells.toList=[v]:=by cases v<;>first|rfl|exact absurd rfl (bh _)
 rw[a1] at h;exact(h.2 0 x v rfl rfl).2
theorem ahN {c:List aA}{cs:Array Value}(h:lV w c (Value.agg cs).cells.toList):Rel w (fun b=>b<w.heap.size) (fun _ _=>False) (fun _ _=>none) (.agg c) (.agg cs):=by have a1:(Value.agg cs).cells.toList=cs.toList:=rfl;rw[a1] at h;have h2:=Rel.agg (c:=c) cs.toList h.1 (fun j v bh=>by have ap:=gD bh;have U:c[j]? = some (c[j]'(by rw[<- h.1];exact ap)):=dy _;exact(h.2 j _ v U bh).1) (fun j x v U bh=>(h.2 j x v U bh).2);simpa using h2
theorem arg_one {α:Type}{f:α->aA}{F:α->List aA}{fG:α->Prop}(an:sq P w t F fG)(ul:∀a,F a=[f a]){H:Type}{enc:TypeId×Value->H}{base:Nat}{spare:Nat->Bool}{held:Bool}{v:Value}{d:DataW H}{lP:List MemPlace}
 (h:DataW.Trod enc P w base spare held t v d lP) (bh : ∀cs,v≠ .agg cs) : ∃a,fG a/\Rel w (fun b=>b<w.heap.size) (fun _ _=>False) (fun _ _=>none) (f a) v:=by
 obtain⟨tT,cp⟩:=h;obtain⟨a,h1,h2⟩:=an.opens cp;rw[ul] at h2;exact⟨a,h1,agR h2 bh⟩
theorem arg_agg {α:Type}{F:α->List aA}{fG:α->Prop}(an:sq P w t F fG){H:Type}{enc:TypeId×Value->H}{base:Nat}{spare:Nat->Bool}{held:Bool}{cs:Array Value}{d:DataW H}{lP:List MemPlace}
 (h:DataW.Trod enc P w base spare held t (.agg cs) d lP) : ∃a,fG a/\Rel w (fun b=>b<w.heap.size) (fun _ _=>False) (fun _ _=>none) (.agg (F a)) (.agg cs):=by
 obtain⟨tT,cp⟩:=h;obtain⟨a,h1,h2⟩:=an.opens cp;exact⟨a,h1,ahN h2⟩
def ER (w:World)(args:List aA)(vs:List Value):Prop :=
 vs.length=args.length/\ ∀(j:Nat) x v,args[j]? = some x->vs[j]? = some v->Rel w (fun b=>b<w.heap.size) (fun _ _=>False) (fun _ _=>none) x v
theorem ER.nil:ER w [] []:=⟨rfl,fun j x v U=>by simp at U⟩
theorem ER.cons {x:aA}{v:Value}{args:List aA}{vs:List Value}(h:Rel w (fun b=>b<w.heap.size) (fun _ _=>False) (fun _ _=>none) x v)(t:ER w args vs):ER w (x::args) (v::vs):=by
 refine⟨by simp[t.1],fun j y u aY hu=> ?_⟩
 match j,aY,hu with
 | 0,aY,hu=>obtain rfl:=dJ aY;obtain rfl:=dJ hu;exact h
 | j+1,aY,hu=>exact t.2 j y u (by simpa using aY) (by simpa using hu)
theorem trod_lt' {H:Type}{enc:TypeId×Value->H}{base:Nat}{spare:Nat->Bool}{held:Bool}{v:Value}{d:DataW H}{lP:List MemPlace}(h:DataW.Trod enc P w base spare held t v d lP): ∀p∈lP,p.block<w.heap.size:=by obtain⟨tT,cp⟩:=h;exact DataW.trod_lt tT t v.cells.toList (d,lP) cp
theorem Con.row {f:FuncId}{args:List aA}{b:Bool}(h:Con P f args [] (.b b) []){vs:List Value}(bH:ER w args vs):
 Calls P f vs.toArray w fun e b5=>e = .returned (.bool b)/\Below w.heap.size w b5:=by
 let g:G:={pO:=w,A:=fun b=>b<w.heap.size,tn:=fun _=>False,N:=0,m:=0,sD:=(gr []).bi,vK:=(gr []).bo fun _ _=>none}
 have bC : ∀r k,(gr []).al r k=none:=by intro r k;simp[S.al,gr,er]
 have eY:ky g (gr []) (fun _ _=>none) w:=by
  have lJ : ∀j k,¬(gr []).bi j k:=fun j k ap=>(by simp[S.bi,gr] at ap);refine⟨?_,?_,?_,⟨rfl,rfl,rfl,dE _,fun _ _ _=>rfl⟩,?_,?_,?_,?_⟩
  ·intro r k o an;rw[bC] at an;simp at an
  ·intro r k o fN eh cD b m aF an;rw[bC] at an;simp at an
  ·intro r k o b m an;rw[bC] at an;simp at an
  ·intro b aO;exact aO.elim
  ·intro b aO;exact aO
  ·intro j k ap;exact absurd ap (lJ j k)
  intro j k ap;exact absurd ap (lJ j k)
 have a1:=h.2 g (fun _ _=>none) w vs.toArray rfl rfl rfl rfl eY (by simpa using bH.1) (fun j x v U bh=>(bH.2 j x v U (by simpa using bh)).mono
  (fun b aO=>⟨aO,.inl aO,fun aZ=>by obtain⟨r,k,o,m,h1,-⟩:=aZ;rw[bC] at h1;simp at h1⟩) (fun _ _=>rfl) (fun r k ak=>ak.elim) (fun r k ak=>ak.elim))
 refine a1.mono fun e b5 a0=> ?_;obtain⟨v,cc,rfl,h1,h2⟩:=a0;have bh:=h2.yZ;subst bh;exact⟨rfl,h1.i3.os,h1.i3.tape,h1.i3.output,h1.i3.size,fun k a4=>h1.i3.block k a4 id⟩
end
abbrev arc:aR:=⟨0,[],.gone⟩
abbrev bF:=Option (Nat×Nat)
abbrev jJ (dU c sz:Nat)(h:bF):aA:= .k8 dU c sz h
def bT (dU c sz:Nat)(h:bF):List aA:=[jJ dU c sz h]
theorem PD {dU c sz:Nat}{h:bF}(e:h=none):lI (jJ dU c sz h) (.isl sz []):=by rw[e];exact .n1 _ _ _
theorem mA {dU c sz:Nat}{h:bF}{p:Nat×Nat}(e:h=some p):lI (jJ dU c sz h) (.bw dU (p.1+c) 0 p.2):=by rw[e];exact .s1 _ _ _ _ _
theorem ZN {x v:aA}(e:x=v):lI x v:=e▸ .refl x
def FE:List aA->List aA->Prop
 | [],[]=>True
 | a::l,b::m=>lI a b/\FE l m
 | _,_=>False
theorem FE.at_ : ∀ {l m:List aA},FE l m->m.length=l.length/\ ∀(j:Nat) x dY,l[j]? = some x->m[j]? = some dY->lI x dY
 | [],[],_=>⟨rfl,fun j x dY h=>by simp at h⟩
 | a::l,b::m,h=>⟨by simp[(FE.at_ h.2).1],fun j x dY U fa=>by
  cases j with
  | zero=>simp at U fa;subst U;subst fa;exact h.1
  | succ j=>exact(FE.at_ h.2).2 j x dY (by simpa using U) (by simpa using fa)⟩
 | [],_::_,h=>h.elim
 | _::_,[],h=>h.elim
theorem LK {l m:List aA}(h:FE l m):lI (.agg l) (.agg m):= .agg h.at_.1 h.at_.2
theorem Qb {b7:Nat->Option Nat}{dU oq c sz:Nat}(cv:b7 dU=some oq)(h:bF):p8 b7 (jJ dU c sz h)=jJ oq c sz h:=by simp only[jJ,p8,cv]
theorem L0 {a3:iP}{dU oq c eG sz:Nat}(hm:∀k,a3 oq (k+eG)=some (dU,k+c))(h:bF):FC a3 (jJ dU c sz h) (jJ oq eG sz h):= .inr (.inr (.inr ⟨dU,c,sz,h,oq,eG,rfl,hm,rfl⟩))
theorem L1 (dU c sz:Nat)(h:bF):bD (jJ dU c sz h):= .k8 _ _ _ _
def l0 {α:Type}(cY:hU)(sz:Nat)(f:α->List aA)(l:List α):aR:=⟨sz,l.map f,cY⟩
section
variable {α:Type} {sz:Nat} {cY:hU} {f:α->List aA} {P:List (List α)} {raw:List aR}
theorem kG (e:raw=P.map (l0 cY sz f))(a4:cY≠ .gone){k:Nat}{l:List α}(h:P[k]? = some l):er (some raw) k=some (aR.mk sz (l.map f) cY):=by rw[e,m3,dK,h];exact dB a4
theorem jo:hU.live≠ .gone:=by simp
theorem qv (e:raw=P.map (l0 cY sz f))(k:Nat){l:List α}{es:List (List aA)}(aZ:es=l.map f):raw.set k (aR.mk sz es cY)=(P.set k l).map (l0 cY sz f):=by rw[e,aZ,List.map_set];rfl
theorem LL (cY:hU)(sz:Nat)(f:α->List aA):([]:List aR)=([]:List (List α)).map (l0 cY sz f):=rfl
theorem A1 (e:raw=P.map (l0 cY sz f)){n:Nat}(h:n=P.length):raw.length=n:=by rw[e,h,arC]
theorem ajB (a b n:Nat): ∀ {x:aA},Pure x->nw a b n x=x:=by
 intro x h;have aZ : ∀c:List aA,(∀x∈c,nw a b n x=x)->nw.Fw a b n c=c:=by intro c a1;rw[LG];exact(arE a1).trans (List.map_id _)
 induction h with
 | agg h ih=>rw[nw,aZ _ ih]
 | et h ih=>rw[nw,aZ _ ih]
 | _=>rfl
theorem ajC (ai:∀x,∀v∈f x,Pure v)(a b n:Nat){es:List (List aA)}{l:List α}(e:es=l.map f):es.map (fun e=>e.map (nw a b n))=l.map f:=by rw[e,List.map_map];refine arE fun x _=> ?_;exact(arE fun v bh=>ajB a b n (ai x v bh)).trans (List.map_id _)
theorem yT (e:raw=P.map (l0 cY sz f)){Q:List (List α)}{r2:List aR}(h:r2=Q.map (l0 cY sz f)):raw++r2=(P++Q).map (l0 cY sz f):=by rw[e,h,List.map_append]
theorem xH (ai:∀x,∀v∈f x,Pure v)(a b n:Nat){es:List (List aA)}{l:List α}(h:es=l.map f){r2:List aR}{Q:List (List α)}(t:r2.map (pv a b n)=Q.map (l0 cY sz f)):
 (aR.mk sz es cY::r2).map (pv a b n)=(l::Q).map (l0 cY sz f):=by
 simp only[List.map_cons,t,pv,ajC ai a b n h];rfl
theorem y1 (a b n:Nat):([]:List aR).map (pv a b n)=([]:List (List α)).map (l0 cY sz f):=rfl
def jg (P:List (List α)):bF->List α
 | none=>[]
 | some (k,n)=>(P.getD k []).take n
def rW (P:List (List α)):bF->Bool
 | none=>true
 | some (k,n)=>decide (k<P.length) && decide (n<=(P.getD k []).length)
def zq (dU:Nat)(kK:List aR)(bN:hU->Bool):List aA->List aA->Prop
 | [],[]=>True
 | a::l,b::m=>IZ dU kK bN a b/\zq dU kK bN l m
 | _,_=>False
theorem Yz {dU:Nat}{kK:List aR}{bN:hU->Bool}: ∀ {l m:List aA},zq dU kK bN l m->m.length=l.length
 | [],[],_=>rfl
 | _::_,_::_,h=>by simp[Yz h.2]
 | [],_::_,h=>h.elim
 | _::_,[],h=>h.elim
theorem Zb {dU:Nat}{kK:List aR}{bN:hU->Bool}: ∀ {l m:List aA},zq dU kK bN l m-> ∀(j:Nat) x dY,l[j]? = some x->m[j]? = some dY->IZ dU kK bN x dY
 | _::_,_::_,h,0,x,dY,h1,h2=>by simp at h1 h2;subst h1;subst h2;exact h.1
 | _::_,_::_,h,j+1,x,dY,h1,h2=>Zb h.2 j x dY (by simpa using h1) (by simpa using h2)
 | [],_,_,_,_,_,h1,_=>by simp at h1
theorem Zc {dU:Nat}{kK:List aR}{bN:hU->Bool}{x:aA}(h:x.kv=true):IZ dU kK bN x x:= .inl ⟨rfl,h⟩
theorem L2 {dU c:Nat}{oY:List aR}{bN:hU->Bool}(e:raw=P.map (l0 cY sz f))(ai:∀x,∀v∈f x,Pure v)(a1:oY.length=c)(a4:cY≠ .gone)(bH:bN cY=true): ∀ {h:bF},rW P h=true ->
 IZ dU (oY++raw) bN (jJ dU c sz h) (.isl sz ((jg P h).map f))
 | none,_=> .inr (.inl ⟨c,sz,rfl,rfl⟩)
 | some (k,n),o3=>by
  simp only[rW,dO,decide_eq_true_eq] at o3;obtain⟨h1,h2⟩:=o3;have Q4:P[k]? = some P[k]:=dy h1;have d6:P.getD k []=P[k]:=(by simp[List.getD,Q4]);rw[d6] at h2;refine .inr (.inr ⟨k+c,0,n,aR.mk sz (P[k].map f) cY,.inr ⟨c,sz,k,rfl,rfl,rfl⟩,?_,bH,by simpa using h2,?_,?_⟩)
  ·have:=kG e a4 Q4;rw[m3] at this ⊢;rw[arx (by omega),a1,show k+c-c=k by omega];exact this
  ·intro e he x U;rw[List.drop_zero] at he;have he:=List.mem_of_mem_take he;rw[List.mem_map] at he;obtain⟨y,-,rfl⟩:=he;exact ai y x U
  simp only[jg,d6,List.drop_zero,List.map_take]
end
theorem wx {α β:Type}{f:α->List aA}{g:β->List aA}{v:α->β}{dU:Nat}{kK:List aR}{bN:hU->Bool}{sz:Nat}{raw:List (List aA)}{xs:List α}(e:raw=xs.map f)(d6:∀y,(g y).length=sz)
 (h : ∀x∈xs,zq dU kK bN (f x) (g (v x))) {n:Nat} (a2:n=xs.length):JN dU kK bN sz ((raw.drop 0).take n) ((xs.map v).map g):=by
 have e0:(raw.drop 0).take n=xs.map f:=by rw[List.drop_zero,a2,e,arp (by simp)]
 rw[e0];have cp : ∀x∈xs,(f x).length=sz:=fun x U=>by rw[<- Yz (h x U),d6]
 refine⟨by simp,fun e he=> ?_,fun j x dY U fa=> ?_⟩
 ·rw[List.mem_map] at he;obtain⟨y,-,rfl⟩:=he;exact d6 y
 rcases Nat.eq_zero_or_pos sz with h0|bS
 ·have : ∀l:List α,(∀x∈l,(f x).length=sz)->(l.map f).flatten=[]:=by
   intro l aZ
   induction l with
   | nil=>rfl
   | cons a l ih =>
    have h1:=aZ a (by simp);rw[h0] at h1;rw[List.map_cons,aru,ih fun x U=>aZ x (by simp[U]),dM.1 h1];rfl
  rw[this xs cp] at U;simp at U
 rw[sT bS _ (by intro e he;rw[List.mem_map] at he;obtain⟨y,aY,rfl⟩:=he;exact cp y aY)] at U;rw[sT bS _ (by intro e he;rw[List.mem_map] at he;obtain⟨y,-,rfl⟩:=he;exact d6 y)] at fa;rw[dK,dK] at fa;rw[dK] at U
 cases aY:xs[j / sz]? with
 | none=>rw[aY] at U;simp at U
 | some y =>
  rw[aY] at U fa;simp only[arq,dx] at U fa;exact Zb (h y (dH aY)) _ x dY U fa
section
variable {b7:Nat->Option Nat}
theorem ph:([]:List aR)=([]:List aR).map (lK b7):=rfl
theorem fy {o cD:aR}{l gW:List aR}(h:cD=lK b7 o)(t:gW=l.map (lK b7)):cD::gW=(o::l).map (lK b7):=by rw[h,t];rfl
theorem ZO {α:Type}{sz:Nat}{cY:hU}{f ml:α->List aA}{raw:List (List aA)}{xs:List α}(e:raw=xs.map f)(h:∀x,(f x).map (p8 b7)=ml x):aR.mk sz (xs.map ml) cY=lK b7 (aR.mk sz raw cY):=by simp only[lK,e,List.map_map,aR.mk.injEq,true_and,and_true];exact arE fun x _=>(h x).symm
theorem nm {α:Type}{cY:hU}{sz:Nat}{f:α->List aA}{raw:List aR}{P:List (List α)}(e:raw=P.map (l0 cY sz f))(h:∀x,(f x).map (p8 b7)=f x):P.map (l0 cY sz f)=raw.map (lK b7):=by rw[e,List.map_map];refine arE fun l _=> ?_;exact ZO rfl h
theorem uG:mP []:=fun o h=>by simp at h
theorem ku {o:aR}{l:List aR}(h:o.cY = .live)(t:mP l):mP (o::l):=fun p ai=>by
 rcases dR.1 ai with e|e
 ·rw[e];exact .inl h
 exact t p e
theorem yK {α:Type}{sz:Nat}{f:α->List aA}{raw:List aR}{P:List (List α)}(e:raw=P.map (l0 .live sz f)):mP raw:=fun o an=>by rw[e,List.mem_map] at an;obtain⟨l,-,rfl⟩:=an;exact .inl rfl
end
section
variable {a3:iP}
theorem LM:tf a3 [] []:=⟨rfl,fun k o cD h=>by simp at h⟩
def aaK (a3:iP)(o cD:aR):Prop:=cD.sz=o.sz/\cD.cY=o.cY/\cD.es.length=o.es.length/\(∀e∈cD.es,e.length=o.sz) /\
 ∀(j:Nat) x dY,o.es.flatten[j]? = some x->cD.es.flatten[j]? = some dY->FC a3 x dY
theorem Ln {o cD:aR}{l gW:List aR}(h:aaK a3 o cD)(t:tf a3 l gW):tf a3 (o::l) (cD::gW):=by
 refine⟨by simp[t.1],fun k p mX ai nX=> ?_⟩
 cases k with
 | zero=>simp at ai nX;subst ai;subst nX;exact h
 | succ k=>exact t.2 k p mX (by simpa using ai) (by simpa using nX)
def zr (a3:iP):List aA->List aA->Prop
 | [],[]=>True
 | a::l,b::m=>FC a3 a b/\zr a3 l m
 | _,_=>False
theorem YA : ∀ {l m:List aA},zr a3 l m->m.length=l.length
 | [],[],_=>rfl
 | _::_,_::_,h=>by simp[YA h.2]
 | [],_::_,h=>h.elim
 | _::_,[],h=>h.elim
theorem Zd : ∀ {l m:List aA},zr a3 l m-> ∀(j:Nat) x dY,l[j]? = some x->m[j]? = some dY->FC a3 x dY
 | _::_,_::_,h,0,x,dY,h1,h2=>by simp at h1 h2;subst h1;subst h2;exact h.1
 | _::_,_::_,h,j+1,x,dY,h1,h2=>Zd h.2 j x dY (by simpa using h1) (by simpa using h2)
 | [],_,_,_,_,_,h1,_=>by simp at h1
theorem Ie {α:Type}{sz:Nat}{cY:hU}{f ml:α->List aA}{raw:List (List aA)}{xs:List α}(e:raw=xs.map f)(aZ:∀x,(ml x).length=sz)(h:∀x,zr a3 (f x) (ml x)):aaK a3 (aR.mk sz raw cY) (aR.mk sz (xs.map ml) cY):=by
 subst e;refine⟨rfl,rfl,by simp,fun e he=> ?_,fun j x dY U fa=> ?_⟩
 ·simp only[List.mem_map] at he;obtain⟨y,-,rfl⟩:=he;exact aZ y
 simp only at U fa;rcases Nat.eq_zero_or_pos sz with h0|bS
 ·have:(xs.map ml).flatten=[]:=by
   induction xs with
   | nil=>rfl
   | cons a l ih =>
    have h1:=aZ a;rw[h0] at h1
    have h2:(l.map ml).flatten=[]:=by
     clear ih U fa
     induction l with
     | nil=>rfl
     | cons b l ih =>
      have h1:=aZ b;rw[h0] at h1;rw[List.map_cons,aru,ih,dM.1 h1];rfl
    rw[List.map_cons,aru,h2,dM.1 h1];rfl
  rw[this] at fa;simp at fa
 have anu : ∀x,(f x).length=sz:=fun x=>by rw[<- YA (h x),aZ]
 rw[sT bS _ (by intro e he;rw[List.mem_map] at he;obtain⟨y,-,rfl⟩:=he;exact anu y)] at U;rw[sT bS _ (by intro e he;rw[List.mem_map] at he;obtain⟨y,-,rfl⟩:=he;exact aZ y)] at fa;rw[dK] at U fa
 cases aY:xs[j / sz]? with
 | none=>rw[aY] at U;simp at U
 | some y =>
  rw[aY] at U fa;simp only[arq,dx] at U fa;exact Zd (h y) _ x dY U fa
theorem ajD {l:List aA}(h:∀v∈l,v.kv=true):zr a3 l l:=by
 induction l with
 | nil=>trivial
 | cons a l ih=>exact⟨.inl ⟨rfl,h a (by simp)⟩,ih fun v bh=>h v (by simp[bh])⟩
theorem Lo {α:Type}{cY:hU}{sz:Nat}{f:α->List aA}{raw:List aR}{P:List (List α)}(e:raw=P.map (l0 cY sz f))(aZ:∀x,(f x).length=sz)(a2:∀x,∀v∈f x,v.kv=true):tf a3 raw (P.map (l0 cY sz f)):=by subst e;refine⟨rfl,fun k o cD an fj=> ?_⟩;rw[an] at fj;simp at fj;subst fj;rw[dK,dP] at an;obtain⟨l,-,rfl⟩:=an;exact Ie rfl aZ fun x=>ajD (a2 x)
end
theorem pe:nM []:=fun row h=>by simp at h
theorem pc {row:List aR}{T:List (List aR)}(h:∀o∈row,∀e∈o.es,∀x∈e,bD x)(t:nM T):nM (row::T):=fun r ak=>by
 rcases dR.1 ak with e|e
 ·rw[e];exact h
 exact t r e
theorem qu : ∀o∈([]:List aR),∀e∈o.es,∀x∈e,bD x:=fun o h=>by simp at h
theorem l9 {o:aR}{row:List aR}(h:∀e∈o.es,∀x∈e,bD x)(t:∀o∈row,∀e∈o.es,∀x∈e,bD x): ∀p∈o::row,∀e∈p.es,∀x∈e,bD x:=fun p ai=>by
 rcases dR.1 ai with e|e
 ·rw[e];exact h
 exact t p e
theorem lY {α:Type}{sz:Nat}{cY:hU}{f:α->List aA}{xs:List α}(h:∀x,∀v∈f x,bD v): ∀e∈(aR.mk sz (xs.map f) cY).es,∀x∈e,bD x:=fun e he x U=>by simp only[List.mem_map] at he;obtain⟨y,-,rfl⟩:=he;exact h y x U
theorem Po {α:Type}{cY:hU}{sz:Nat}{f:α->List aA}{P:List (List α)}(h:∀x,∀v∈f x,bD v): ∀o∈P.map (l0 cY sz f),∀e∈o.es,∀x∈e,bD x:=fun o an=>by rw[List.mem_map] at an;obtain⟨l,-,rfl⟩:=an;exact lY h
theorem uV : ∀x,∀v∈eI x,bD v:=fun x v h=>by simp[eI] at h;subst h;exact .n _ _
theorem ja : ∀x,∀v∈eI x,v.kv=true:=fun x v h=>by simp[eI] at h;subst h;rfl
theorem Qc : ∀x,∀v∈gX x,v.kv=true:=fun x v h=>by simp[gX] at h;subst h;rfl
theorem ES : ∀x∈([]:List aA),bD x:=fun x h=>by simp at h
theorem qs {a:aA}{l:List aA}(h:bD a)(t:∀x∈l,bD x): ∀x∈a::l,bD x:=fun x U=>by
 rcases dR.1 U with e|e
 ·rw[e];exact h
 exact t x e
theorem wF {b7:Nat->Option Nat}{dU oq c sz:Nat}(cv:b7 dU=some oq)(h:bF):(bT dU c sz h).map (p8 b7)=bT oq c sz h:=by simp only[bT,List.map_cons,List.map_nil,Qb cv]
theorem L3 {a3:iP}{dU oq c eG sz:Nat}(hm:∀k,a3 oq (k+eG)=some (dU,k+c))(h:bF):zr a3 (bT dU c sz h) (bT oq eG sz h):=⟨L0 hm h,trivial⟩
theorem FF {α:Type}{sz:Nat}{cY:hU}{f:α->List aA}{P:List (List α)}{raw:List aR}{dU c:Nat}{oY:List aR}{bN:hU->Bool}(e:raw=P.map (l0 cY sz f))(ai:∀x,∀v∈f x,Pure v)(a1:oY.length=c)(a4:cY≠ .gone)(bH:bN cY=true)
 {h:bF} (aa:rW P h=true):zq dU (oY++raw) bN (bT dU c sz h) (fP sz f (jg P h)):=⟨L2 e ai a1 a4 bH aa,trivial⟩
theorem vA {α:Type}{p:α->Bool}{l:List α}(h:l.all p=true): ∀x∈l,p x=true:=List.all_eq_true.1 h
theorem mc {α:Type}{f:α->List aA}(h:∀x,∀v∈f x,v.kv=true){b7:Nat->Option Nat}(x:α):(f x).map (p8 b7)=f x:=by refine(arE fun v bh=> ?_).trans (List.map_id _);have:=h x v bh;cases v<;>simp[aA.kv] at this<;>simp[p8,aA.kv]
def ab:Nat->List (f8×Bool)->List (f8×Bool)
 | 0,l=>l
 | n+1,l=>aoL::ab n l
def cX:Nat->List (f8×Bool)->List (f8×Bool)
 | 0,l=>l
 | n+1,l=>aoM::cX n l
def ad (a:f8)(l:List (f8×Bool)):List (f8×Bool):=(a,true)::l
def i6 (n:Nat)(r:aA)(d4:Bool)(en:List Nat:=[]):f8:= .call {ac:=List.replicate n ii,r:=r,d4:=d4,en:=en}
def bf:List Nat->List (Nat×n9)
 | []=>[]
 | n::l=>(n,ii)::bf l
def anv (n:Nat):n9:= .a6 (.cr (.len n))
structure um where
 x:Option Nat
 env:List (Nat×aA)
 rows:List (List aR)
def um.e (o:um):B8:=match o.x with
 | some i=> .exit i
 | none=> .ret
def um.du (o:um):S:=dv o.env o.rows
def um.aoN (o:um):ks:= .sub o.e o.env o.rows
theorem um.ne (o:um):o.e.x≠ .normal:=by unfold um.e;split<;>simp[B8.x]
section
variable {P:Program} {N m:Nat} {α β:Type}
def abA (P:Program)(N m f:Nat)(p:List Nat)(s:S)(head:α->S)(out:β->um):α⊕β->Prop
 | .inl a=>lN P N m (nodeAt (PT P f) p) .normal s (head a)
 | .inr r=>lN P N m (nodeAt (PT P f) p) (out r).e.x s (out r).du
def abB (P:Program)(N m f:Nat)(p:List Nat)(head:α->S)(out:β->um)(a:α)(r:β):Prop :=
 lN P N m (.loop (nodeAt (PT P f) p)) (out r).e.x (head a) (out r).du
theorem ajE {f:Nat}{p:List Nat}{b:α->Option (α⊕β)}{head:α->S}{out:β->um}(h:∀a,bk (b a) (abA P N m f p (head a) head out)){a:α}{r:β}(ak:iter b a=some r):abB P N m f p head out a r :=
 (akx (head:=head) (j1:=fun r=>(out r).e.x) (out:=fun r=>(out r).du) (fun r=>(out r).ne) (fun a r ak=>by
   have:=h a r ak
   cases r with
   | inl eK=>exact this
   | inr fN=>exact this) a r ak).ans
end
theorem Zf {a b c:Nat}(h:a+b<=c):a<=c:=by omega
theorem Zg {bV:Type}{rx oC:List (List aA)}{f:bV->List aA}{xs bW:List bV}(j1:rx=xs.map f)(kZ:oC=bW.map f){n:Nat}(h:n+bW.length<=xs.length):n+oC.length<=rx.length:=by rw[j1,kZ];simpa using h
theorem XX {bV:Type}{oC:List (List aA)}{f:bV->List aA}{bW:List bV}(kZ:oC=bW.map f){b c:Nat}(h:bW.length*b<=c):oC.length*b<=c:=by rw[kZ];simpa using h
theorem aln {bV:Type}{rx oC:List (List aA)}{f:bV->List aA}{xs bW:List bV}(j1:rx=xs.map f)(kZ:oC=bW.map f):oC++rx.drop oC.length=(bW++xs.drop bW.length).map f:=by rw[j1,kZ];simp
theorem al9 {bV:Type}{oC:List (List aA)}{f:bV->List aA}{bW:List bV}(kZ:oC=bW.map f){n:Nat}(h:bW.length<=n):oC.length<=n:=by rw[kZ];simpa using h
theorem Zh {bV:Type}{xs bW:List bV}{n m:Nat}(a2:n=xs.length)(hm:m<=n)(h:bW.length<=m):n=(bW++xs.drop bW.length).length:=by simp;omega
theorem alo {bV:Type}{rx:List (List aA)}{f:bV->List aA}{xs:List bV}(j1:rx=xs.map f){n:Nat}(h:n=xs.length):rx.length=n:=by rw[j1];simp[h]
section
variable {a b c d e f g h i j:Prop} {l:List Prop}
theorem cO.e1 (x1:a):cO [a]:= .c x1 .nil
theorem cO.cw (x1:a)(x2:b)(t:cO l):cO (a::b::l):= .c x1 (.c x2 t)
theorem cO.e2 (x1:a)(x2:b):cO [a,b]:= .cw x1 x2 .nil
theorem cO.j8 (x1:a)(x2:b)(ag:c)(t:cO l):cO (a::b::c::l):= .c x1 (.cw x2 ag t)
theorem cO.bG (x1:a)(x2:b)(ag:c):cO [a,b,c]:= .j8 x1 x2 ag .nil
theorem cO.uk (x1:a)(x2:b)(ag:c)(hb:d)(t:cO l):cO (a::b::c::d::l):= .c x1 (.j8 x2 ag hb t)
theorem cO.cR (x1:a)(x2:b)(ag:c)(hb:d):cO [a,b,c,d]:= .uk x1 x2 ag hb .nil
theorem cO.r8 (x1:a)(x2:b)(ag:c)(hb:d)(d7:e)(t:cO l):cO (a::b::c::d::e::l):= .c x1 (.uk x2 ag hb d7 t)
theorem cO.dd (x1:a)(x2:b)(ag:c)(hb:d)(d7:e):cO [a,b,c,d,e]:= .r8 x1 x2 ag hb d7 .nil
theorem cO.yi (x1:a)(x2:b)(ag:c)(hb:d)(d7:e)(ch:f)(t:cO l):cO (a::b::c::d::e::f::l):= .c x1 (.r8 x2 ag hb d7 ch t)
theorem cO.eC (x1:a)(x2:b)(ag:c)(hb:d)(d7:e)(ch:f):cO [a,b,c,d,e,f]:= .yi x1 x2 ag hb d7 ch .nil
theorem cO.aP (x1:a)(x2:b)(ag:c)(hb:d)(d7:e)(ch:f)(c5:g)(pA:h)(t:cO l):cO (a::b::c::d::e::f::g::h::l):= .cw x1 x2 (.yi ag hb d7 ch c5 pA t)
theorem cO.fm (x1:a)(x2:b)(ag:c)(hb:d)(d7:e)(ch:f)(c5:g):cO [a,b,c,d,e,f,g]:= .c x1 (.eC x2 ag hb d7 ch c5)
theorem cO.gY (x1:a)(x2:b)(ag:c)(hb:d)(d7:e)(ch:f)(c5:g)(pA:h):cO [a,b,c,d,e,f,g,h]:= .cw x1 x2 (.eC ag hb d7 ch c5 pA)
end
section
variable {α bV:Type}
theorem eg (f:bV->List aA)(l:List bV):l.map f=l.map f:=rfl
theorem eN (l:List bV):l.length=l.length:=rfl
theorem RM (cY:hU)(sz:Nat)(f:bV->List aA)(P:List (List bV)):P.map (l0 cY sz f)=P.map (l0 cY sz f):=rfl
theorem hB (x:α):x=x:=rfl
theorem bp:true=true:=rfl
theorem fq:false=false:=rfl
theorem bO (f:bV->List aA){l:List bV}{i:Nat}{x:bV}(h:l[i]? = some x):(l.map f)[i]? = some (f x):=PC h
theorem dk (f:bV->List aA){l:List bV}{j:Int}(h:j<l.length):j<((l.map f).length:Nat):=Yw h
theorem hJ (f:bV->List aA){l:List bV}{j:Nat}(h:j<l.length):j<(l.map f).length:=Y9 h
theorem aoO (sz:Nat)(cY:hU){raw:List (List aA)}{f:bV->List aA}{l:List bV}(e:raw=l.map f):[aR.mk sz raw cY]=[aR.mk sz (l.map f) cY]:=akz e
theorem w4 (sz:Nat)(cY:hU){f:bV->List aA}(cp:∀x,∀v∈f x,Pure v)(l:List bV):AR [aR.mk sz (l.map f) cY]:=ajz cp l
theorem eB (sz:Nat){f:bV->List aA}(cp:∀x,∀v∈f x,Pure v)(l:List bV):yL [aR.mk sz (l.map f) .live]:=ait cp l
theorem YB {β:Type}{f:α->List aA}{g:β->List aA}{v:α->β}{dU:Nat}{kK:List aR}{bN:hU->Bool}{sz:Nat}{raw:List (List aA)}{l:List α}(e:raw=l.map f)(d6:∀y,(g y).length=sz)(cj n:Nat)
 (h : ∀x∈(l.drop cj).take n,zq dU kK bN (f x) (g (v x))):JN dU kK bN sz ((raw.drop cj).take n) ((((l.drop cj).take n).map v).map g):=by
 have h2:=wx (dU:=dU) (kK:=kK) (bN:=bN) (raw:=(raw.drop cj).take n) (xs:=(l.drop cj).take n) (f:=f) (oF e cj n) d6 h rfl;rw[List.drop_zero,arp (by rw[oF e cj n,arC];exact dE _)] at h2;exact h2
theorem BK {sz:Nat}{f:bV->List aA}{x:Option bV}(h:x=none):lI (jx sz f x) (.hr sz none):=ZN (akB h)
theorem anw {sz:Nat}{f:bV->List aA}{x:Option bV}{y:bV}(h:x=some y):lI (jx sz f x) (.hr sz (some (f y))):=ZN (akC h)
theorem lC {b7:Nat->Option Nat}(sz:Nat)(cY:hU){f:bV->List aA}(ml:bV->List aA){raw:List (List aA)}{xs:List bV}(e:raw=xs.map f)(h:∀x,(f x).map (p8 b7)=ml x):aR.mk sz (xs.map ml) cY=lK b7 (aR.mk sz raw cY):=ZO e h
end
def bt {bV:Type}(s:Nat)(f:bV->List aA)(l:List bV):List aR:=[aR.mk s (l.map f) .live]
def d9 {bV:Type}(s:Nat)(f:bV->List aA)(l:List bV):aR:=aR.mk s (l.map f) .live
def de {bV:Type}(s:Nat)(f:bV->List aA)(P:List (List bV)):List aR:=P.map (l0 .live s f)
def I (n:Nat):ks:= .ah (ab n [])
def bU (a:Nat)(x:f8)(b:Nat):List (f8×Bool):=ab a (ad x (ab b []))
def kz:List Nat->List Src
 | []=>[]
 | n::l=> .row n::kz l
def o9 (l:List Nat):Nat->Option Nat:=sx 0 (kz l)
def hC (l:List Nat):Nat->Option Nat:=xE (kz l)
section
variable {bV:Type}
theorem zF (T:Nat->Option Nat)(a d b c:Nat)(h:T d=some a)(a7:List bF):aR.mk 1 (a7.map (bT a b c)) .live=lK T (aR.mk 1 (a7.map (bT d b c)) .live):=lC 1 .live (bT a b c) (eg (bT d b c) a7) (wF h)
theorem jC (T:Nat->Option Nat)(s:Nat){f:bV->List aA}(g:∀x,∀v∈f x,v.kv=true)(a7:List bV):aR.mk s (a7.map f) .live=lK T (aR.mk s (a7.map f) .live):=lC s .live f (eg f a7) (mc g)
theorem fc (T:Nat->Option Nat)(a d b c:Nat)(h:T d=some a)(a7:List bF):[aR.mk 1 (a7.map (bT a b c)) .live]=[aR.mk 1 (a7.map (bT d b c)) .live].map (lK T):=fy (zF T a d b c h a7) ph
theorem ex (T:Nat->Option Nat)(s:Nat){f:bV->List aA}(g:∀x,∀v∈f x,v.kv=true)(P:List (List bV)):P.map (l0 .live s f)=(P.map (l0 .live s f)).map (lK T):=nm (RM .live s f P) (mc g)
theorem lD (T:Nat->Option Nat)(s:Nat)(v w:List (List aA))(h:aR.mk s v .live=lK T (aR.mk s w .live)):[aR.mk s v .live]=[aR.mk s w .live].map (lK T):=fy h ph
theorem tq (s:Nat)(f:bV->List aA)(P:List (List bV)):mP (P.map (l0 .live s f)):=yK (RM .live s f P)
theorem l6 (s:Nat)(v:List (List aA)):mP [aR.mk s v .live]:=ku rfl uG
theorem gy (f:bV->List aA)(l:List bV):l.map f=((l.map f).drop 0).take l.length:=od (eg f l) (eN l)
theorem fM (f:bV->List aA)(l:List bV):0+l.length<=(l.map f).length:=nl (eg f l) (eN l)
theorem iL (f:bV->List aA)(l:List bV):l.length<=(l.map f).length:=nT (eg f l) (eN l)
theorem fH (bV:Type):0=([]:List bV).length:=rfl
theorem im (f:bV->List aA):([]:List (List aA))=([]:List bV).map f:=rfl
theorem aoP (f:bV->List aA)(x:bV):1<=[f x].length:=dE _
theorem zG (f:bV->List aA)(x:bV):([f x].drop 0).take 1=[x].map f:=rfl
theorem ir (f:bV->List aA)(x:bV):0+1<=[f x].length:=dE _
theorem iu (f:bV->List aA)(l:List bV)(x:bV):(l++([x]:List bV)).length=l.length+(([f x].drop 0).take 1).length:=mz (eN l) (zG f x)
theorem anx (f:bV->List aA){l:List bV}{n:Nat}(h:n<=l.length)(x:bV):(l.take n++([x]:List bV)).length=n+(([f x].drop 0).take 1).length:=Pn h (zG f x)
theorem i7 (f:bV->List aA)(l:List bV)(x:bV):(l.map f).take l.length++([f x].drop 0).take 1=(l++[x]).map f:=mK (eg f l) (eN l) (zG f x)
end
structure ea (α β:Type) where
 h:α->S
 o:β->um
section
variable {P:Program} {N m:Nat} {α β:Type}
def ea.t (x:ea α β)(r:β):ks:=(x.o r).aoN
abbrev ed (P:Program)(N m f:Nat)(p:List Nat)(x:ea α β)(a:α):α⊕β->Prop:=abA P N m f p (x.h a) x.h x.o
theorem cV {f:Nat}{p:List Nat}{b:α->Option (α⊕β)}{x:ea α β}{a:α}{r:β}(ak:iter b a=some r)(h:∀ {a},bk (b a) (ed P N m f p x a)):abB P N m f p x.h x.o a r:=ajE (fun _=>h) ak
end
def _root_.List.aH {bV:Type}(a b:List bV):List bV:=a.append b
def dt:List vZ:=[.id,.id,.id,.id,.id]
def lk:List vZ:=[.id,.id,.id,.id,.id,.id]
def wT (a b:Nat):pr:={lz:=some (a,b)}
def rl (l:List (Nat×Nat)):pr:={bI:=l}
def Q5 (l:List (Nat×Nat))(a b:Nat):pr:={bI:=l,lz:=some (a,b)}
theorem nY:(1000000000:Int)≠0:=by decide
theorem ot {bV:Type}(f:bV->List aA)(l:List bV):(([]:List (List aA)).take 0)++l.map f=([]++l).map f:=mK (im f) (fH bV) (eg f l)
theorem b3 (s:Nat){bV:Type}{f:bV->List aA}(cp:∀x,∀v∈f x,Pure v)(l:List bV):AR [aR.mk s (l.map f) .live]:=w4 s .live cp l
theorem c4 (s:Nat){bV:Type}{raw:List (List aA)}{f:bV->List aA}{l:List bV}(e:raw=l.map f):[aR.mk s raw .live]=[aR.mk s (l.map f) .live]:=aoO s .live e
theorem gp (s:Nat){bV:Type}(f:bV->List aA)(P:List (List bV)):P.map (l0 .live s f)=P.map (l0 .live s f):=rfl
theorem h9 {bV:Type}(f:bV->List aA)(l:List bV)(i:Int)(x:bV):(l.map f).set (0+i.toNat) (f x)=(l.set (0+i.toNat) x).map f:=sj (eg f l) (0+i.toNat) x
theorem hy {bV:Type}(l:List bV)(i:Int)(x:bV):l.length=(l.set (0+i.toNat) x).length:=sX (eN l) (0+i.toNat) x
def iN (n:Nat)(l:ar):f8:=i6 n (.isl 1 (l.map eI)) false
def hY (n:Nat)(x:Int):f8:=i6 n (.n .i64 x) true
def eQ (n:Nat)(x:Bool):f8:=i6 n (.b x) true
theorem mj {bV:Type}(l:List bV):bD (.bw 0 0 0 l.length):=bD.bw 0 0 0 l.length
theorem pJ (T:Nat->Option Nat)(a b:ar):[aR.mk 1 (a.map eI) .live,aR.mk 1 (b.map eI) .live]=[aR.mk 1 (a.map eI) .live,aR.mk 1 (b.map eI) .live].map (lK T):=fy (jC T 1 ja a) (fy (jC T 1 ja b) (ph (b7:=T)))
def e6 (n:Nat)(l:ar):Nat×aA:=(n,.isl 1 (l.map eI))
def gw {bV:Type}(n:Nat)(l:List bV):Nat×aA:=(n,.bw 0 0 0 l.length)
def aT (n:Nat)(x:Int):Nat×aA:=(n,.n .i64 x)
def mS (a b:ar):List aA:=[.isl 1 (a.map eI),.isl 1 (b.map eI)]
def x3 (l:ar):B4:={a3:=[],di:=[],ac:=[ii],r:= .bw 0 0 0 l.length,eU:=[bt 1 eI l],f7:=ii,gK:=[.pure],en:=[],d4:=true}
def ll (n m:Nat):List (f8×Bool):=ab n (cX m (ad (.qK true) []))
def kU (n:Nat):List (f8×Bool):=ab n (ad (.qK false) [])
def nZ (n:Nat):List (f8×Bool):=ad (.qK false) (ab n [])
def lO (n m:Nat):List ks:=[.qK true,I n,.aS [] [] (bf [m])]
def n0 (n r m:Nat):List ks:=[I n,.qK false,.aS [r] [.pure] (bf [m])]
def qb (n:Nat):List ks:=[I n,.qK false,.aS [] [] []]
def rm (n m:Nat):List ks:=[I n,.qK false,.aS [] [] (bf [m])]
def hH {bV:Type}(a:Nat)(l:List bV)(b:Nat):List (f8×Bool):=bU a (.aw l.length) b
def hz (a:Nat)(x:Int)(b:Nat):List (f8×Bool):=bU a (.cn (eI x)) b
theorem th (l:ar):nM [bt 1 eI l]:=pc (l9 (lY uV) qu) pe
def fK {bV:Type}(n:Nat)(g:List bV):Nat×n9:=(n,anv g.length)
theorem Jc (n:Int):([n]:ar).map eI=(([[.n .i64 n]]:List (List aA)).drop 0).take 1:=od (show [[.n .i64 n]]=([n]:ar).map eI from rfl) (show 1=([n]:ar).length from rfl)
section
variable {α β bV:Type} {Q:α->Prop}
theorem bk.bX {p:Prop}[Decidable p] {o:Option β} {f:β->Option α} (h:p-> ∀x,o=some x->bk (f x) Q):bk (if p then o >>= f else none) Q:= .gR fun a=> .bJ (h a)
theorem bk.hL {p q:Prop}[Decidable p] [Decidable q] {x:Option α} (h:p->q->bk x Q):bk (if p then (if q then x else none) else none) Q:= .gR fun a=> .gR (h a)
theorem bk.el {o:Option β}{f:β->Option bV}{g:β->bV->Option α}(h:∀x,o=some x-> ∀y,f x=some y->bk (g x y) Q):bk (o >>= fun x=>f x >>= g x) Q:= .bJ fun x e=> .bJ (h x e)
theorem bk.hE {o:Option β}{p:β->Prop}[∀x,Decidable (p x)] {f:β->Option α} (h : ∀x,o=some x->p x->bk (f x) Q):bk (o >>= fun x=>if p x then f x else none) Q:= .bJ fun x e=> .gR (h x e)
theorem bk.e4 {b:Bool}{r:α}{y:Option α}(h1:b=true->Q r)(h2:b=false->bk y Q):bk (if b=true then some r else y) Q:= .ite (fun h=> .ret (h1 h)) h2
theorem bk.b6 {b:Bool}{r:α}{x:Option α}(h1:b=true->bk x Q)(h2:b=false->Q r):bk (if b=true then x else some r) Q:= .ite h1 (fun h=> .ret (h2 h))
theorem bk.gF {b:Bool}{r fN:α}(h1:b=true->Q r)(h2:b=false->Q fN):bk (if b=true then some r else some fN) Q:= .ite (fun h=> .ret (h1 h)) (fun h=> .ret (h2 h))
end
theorem aW (l:ar):AR [aR.mk 1 (l.map eI) .live]:=b3 1 cy l
abbrev kg.ax:kg:= .pure
abbrev ks.aL:ks:= .qK true
abbrev ks.aI:ks:= .qK false
abbrev f8.aL:f8:= .qK true
abbrev f8.aI:f8:= .qK false
def bd (l:ar):List aR:=bt 1 eI l
def df (l:ar):aR:=d9 1 eI l
theorem iw {x:Int}(h1:-9223372036854775808<=x)(h2:x<9223372036854775808):J x=x:=by
 simp only[J,IntKind.wrap,IntKind.signed,IntKind.bits];have:((2:Int) ^ 64)=18446744073709551616:=by decide
 have BC:((2:Int) ^ 63)=9223372036854775808:=by decide
 simp;omega
theorem m2 {x:Int}:nV x↔ -9223372036854775808<=x/\x<9223372036854775808:=by
 have h1:IntKind.min .i64 = -9223372036854775808:=by decide
 have h2:IntKind.max .i64=9223372036854775807:=by decide
 simp only[nV,Lit.wf,h1,h2,dO,decide_eq_true_eq];omega
theorem La {α β:Type}{f:α->Option (α⊕β)}{s:Nat->α}{r:β}(n:Nat): ∀(k:Nat),(∀i,k<=i->i<k+n->f (s i)=some (.inl (s (i+1))))->f (s (k+n))=some (.inr r)->iter f (s k)=some r:=by
 induction n with
 | zero =>
  intro k _ h;rw[iter];simp at h;simp[h]
 | succ n ih =>
  intro k h1 h2;rw[iter,h1 k (dE _) (by omega)];simp;exact ih (k+1) (fun i R aj=>h1 i (by omega) (by omega)) (by rw[show k+1+n=k+(n+1) by omega];exact h2)
def scan {α β:Type}(t:Nat->α->Option β):Nat->List α->Option β
 | _,[]=>none
 | n,x::xs=>match t n x with
  | some b=>some b
  | none=>scan t (n+1) xs
theorem KY {α β:Type}{f:Int->Option (Int⊕β)}{t:Nat->α->Option β}{e:β}: ∀(xs:List α) (k:Nat),
 (∀n x,xs[n]? = some x->f ((k+n:Nat):Int)=some (match t (k+n) x with|some b=> .inr b|none=> .inl ((k+n+1:Nat):Int)))->f ((k+xs.length:Nat):Int)=some (.inr e)->iter f (k:Int)=some ((scan t k xs).getD e)
 | [],k,_,h=>by rw[iter];simp at h;simp[h,scan]
 | x::xs,k,h1,h2=>by
  have R:=h1 0 x rfl;simp only[Nat.add_zero] at R;rw[iter,R];simp only[scan]
  cases cv:t k x with
  | some b=>simp
  | none =>
   simp only[dC,dx];refine KY xs (k+1) (fun n y aY=> ?_) ?_
   ·have:=h1 (n+1) y (by simpa using aY);rw[show k+(n+1)=k+1+n by omega] at this;exact this
   rw[show k+1+xs.length=k+(x::xs).length by simp;omega];exact h2
theorem kR {α β:Type}{f:α->Option (α⊕β)}(fG:α->Prop)(m:α->Nat)(Q:β->Prop)
 (h : ∀a,fG a->(∃eK,f a=some (.inl eK)/\fG eK/\m eK<m a)\/ ∃r,f a=some (.inr r)/\Q r) : ∀a,fG a-> ∃r,iter f a=some r/\Q r:=by
 have key : ∀n a,m a<=n->fG a-> ∃r,iter f a=some r/\Q r:=by
  intro n
  induction n with
  | zero =>
   intro a hm dh;rcases h a dh with ⟨eK,-,-,R⟩|⟨r,h1,h2⟩
   ·omega
   exact⟨r,by rw[iter,h1];rfl,h2⟩
  | succ n ih =>
   intro a hm dh;rcases h a dh with ⟨eK,h1,h2,R⟩|⟨r,h1,h2⟩
   ·obtain⟨r,r1,r2⟩:=ih eK (by omega) h2;exact⟨r,by rw[iter,h1];exact r1,r2⟩
   exact⟨r,by rw[iter,h1];rfl,h2⟩
 exact fun a dh=>key (m a) a (dE _) dh
theorem KZ {α:Type}{f:Int×List α->Option ((Int×List α)⊕List α)}(xs af:List α)(h0:af.length=xs.length)
 (Qa : ∀(n:Nat) x row,xs[n]? = some x->row.length=xs.length->f ((n:Int),row)=some (.inl (((n+1:Nat):Int),row.set n x)))
 (Fi : ∀row,f ((xs.length:Int),row)=some (.inr row)):iter f (0,af)=some xs:=by
 have h:=La (f:=f) (s:=fun n=>((n:Int),xs.take n++af.drop n)) (r:=xs) xs.length 0 (fun i _ aa=> ?_) ?_
 ·simpa using h
 ·have lj:i<xs.length:=by omega
  rw[Qa i xs[i] _ (dy lj) (by simp;omega)];congr 3;apply arw;intro j;rw[art];simp only[dD,List.length_take,List.length_drop,List.getElem?_append,dS,arz];by_cases ap:i=j
  ·subst ap;have e1:min (i+1) xs.length=i+1:=(by omega);simp[e1,lj];omega
  rw[dB ap];by_cases eS:j<i
  ·have e1:j<min i xs.length:=(by omega);have e2:j<min (i+1) xs.length:=(by omega);rw[dz e1,dz e2,dz eS,dz (by omega)]
  have e1 : ¬j<min i xs.length:=(by omega);have e2 : ¬j<min (i+1) xs.length:=(by omega);rw[dB e1,dB e2];congr 1;omega
 simp only[dG];rw[Fi];simp[h0]
theorem ajF {α β bV:Type}{f:α->Option (α⊕β)}{g:α->Option (α⊕bV)}(h:β->bV)(fG:α->Prop)(dh:∀a eK,fG a->f a=some (.inl eK)->fG eK)(anz:∀a,fG a->g a=(f a).map (Sum.map id h)):
 ∀a r,iter f a=some r->fG a->iter g a=some (h r):=by
 apply iter.partial_correctness f (fun a r=>fG a->iter g a=some (h r));intro it ih a r ak bH;have d6:=anz a bH
 cases cp:f a with
 | none=>rw[cp] at ak;simp at ak
 | some x =>
  rw[cp] at ak d6
  cases x with
  | inl eK =>
   rw[iter,d6];exact ih eK r ak (dh a eK bH cp)
  | inr fN =>
   have jQ:some fN=some r:=ak;obtain rfl:=dJ jQ;rw[iter,d6];rfl
def xQ {α ka β:Type}(g:Nat->ka->α->ka⊕β)(e:ka->β):List α->Nat->ka->β
 | [],_,s=>e s
 | x::xs,n,s=>match g n s x with
  | .inl cg=>xQ g e xs (n+1) cg
  | .inr b=>b
theorem Xr {α ka qn β:Type}{f:qn->Option (qn⊕β)}(du:Nat->ka->qn)(g:Nat->ka->α->ka⊕β)(e:ka->β)(fG:Nat->ka->Prop)(bW:List α)
 (h : ∀n s x,fG n s->bW[n]? = some x->f (du n s)=some (match g n s x with | .inl cg=> .inl (du (n+1) cg) | .inr b=> .inr b)/\ ∀cg,g n s x = .inl cg->fG (n+1) cg)
 (he : ∀s,fG bW.length s->f (du bW.length s)=some (.inr (e s))) : ∀(xs:List α) (n:Nat) (s:ka),bW.drop n=xs->n<=bW.length->fG n s->iter f (du n s)=some (xQ g e xs n s)
 | [],n,s,bI,a2,dh=>by have:n=bW.length:=(by have:=congrArg List.length bI;simp at this;omega);subst this;rw[iter,he s dh];rfl
 | x::xs,n,s,bI,a2,dh=>by
  have U:bW[n]? = some x:=(by have:=congrArg (·[0]?) bI;simpa using this);have eS:=gD U;obtain⟨h1,h2⟩:=h n s x dh U;rw[iter,h1];simp only[xQ]
  cases d6:g n s x with
  | inr b=>rfl
  | inl cg =>
   simp only[dC,dx];refine Xr du g e fG bW h he xs (n+1) cg ?_ (by omega) (h2 cg d6);rw[<- List.drop_drop,bI];rfl
theorem WV {α ka qn β:Type}{f:qn->Option (qn⊕β)}(du:Nat->ka->qn)(g:Nat->ka->α->ka⊕β)(e:ka->β)(bW:List α)
 (h : ∀n s x,bW[n]? = some x->f (du n s)=some (match g n s x with | .inl cg=> .inl (du (n+1) cg) | .inr b=> .inr b))
 (he : ∀s,f (du bW.length s)=some (.inr (e s))) (s:ka):iter f (du 0 s)=some (xQ g e bW 0 s) :=
 Xr du g e (fun _ _=>True) bW (fun n s x _ U=>⟨h n s x U,fun _ _=>trivial⟩) (fun s _=>he s) bW 0 s rfl (Nat.zero_le _) trivial
theorem EJ {α:Type}{f:Int->Option (Int⊕(Unit⊕Unit))}(xs:List α)(p:α->Bool)
 (h : ∀(n:Nat) x,xs[n]? = some x->f n=some (if p x then .inl ((n+1:Nat):Int) else .inr (.inr ()))) (he:f xs.length=some (.inr (.inl ()))) :
 iter f 0=some (if xs.all p then .inl () else .inr ()):=by
 have:=WV (f:=f) (ka:=Unit) (fun n _=>(n:Int)) (fun _ _ x=>if p x then .inl () else .inr (.inr ())) (fun _=> .inl ()) xs (fun n _ x U=>by rw[h n x U];cases p x<;>rfl) (fun _=>he) ();rw[show ((0:Nat):Int)=0 from rfl] at this;rw[this];congr 1
 have key : ∀(bW:List α) (n:Nat),xQ (fun (_:Nat) (_:Unit) x=>if p x then Sum.inl () else Sum.inr (Sum.inr ())) (fun _=>(Sum.inl ():Unit⊕Unit)) bW n ()=if bW.all p then .inl () else .inr ():=by
  intro bW
  induction bW with
  | nil=>intro n;rfl
  | cons y bW ih =>
   intro n;simp only[xQ,List.all_cons];by_cases ai:p y=true
   ·simpa [ai] using ih (n+1)
   simp[ai]
 exact key xs 0
theorem aiu {α:Type}{f:Int->Option (Int⊕(Unit⊕Int))}(xs:List α)(p:α->Bool)
 (h : ∀(n:Nat) x,xs[n]? = some x->f n=some (if p x then .inr (.inr (n:Int)) else .inl ((n+1:Nat):Int))) (he:f xs.length=some (.inr (.inl ()))) :
 ∃r,iter f 0=some r/\((∃k:Int,r = .inr k/\0<=k/\xs.any p=true)\/(r = .inl ()/\xs.any p=false)):=by
 have:=WV (f:=f) (ka:=Unit) (fun n _=>(n:Int)) (fun n _ x=>if p x then .inr (.inr (n:Int)) else .inl ()) (fun _=> .inl ()) xs (fun n _ x U=>by rw[h n x U];cases p x<;>rfl) (fun _=>he) ();rw[show ((0:Nat):Int)=0 from rfl] at this;refine⟨_,this,?_⟩
 have key : ∀(bW:List α) (n:Nat),(∃k:Int,xQ (fun (n:Nat) (_:Unit) x=>if p x then Sum.inr (Sum.inr (n:Int)) else Sum.inl ()) (fun _=>(Sum.inl ():Unit⊕Int)) bW n () = .inr k/\0<=k/\bW.any p=true) \/
  (xQ (fun (n:Nat) (_:Unit) x=>if p x then Sum.inr (Sum.inr (n:Int)) else Sum.inl ()) (fun _=>(Sum.inl ():Unit⊕Int)) bW n () = .inl ()/\bW.any p=false):=by
  intro bW
  induction bW with
  | nil=>intro n;exact .inr ⟨rfl,rfl⟩
  | cons y bW ih =>
   intro n;simp only[xQ,List.any_cons];by_cases ai:p y=true
   ·exact .inl ⟨n,by simp[ai],by omega,by simp[ai]⟩
   simpa [ai] using ih (n+1)
 exact key xs 0
theorem i1 {n:Nat}(h:(n:Int)<9223372036854775807):J ((n:Int)+1)=((n+1:Nat):Int):=by rw[iw (by omega) (by omega)];rfl
def V:ar->Int
 | []=>0
 | x::xs=>x+1000000000*V xs
def dj (l:ar):Prop:= ∀x∈l,0<=x/\x<1000000000
abbrev B (n:Nat):Int:=(1000000000:Int) ^ n
theorem pi (n:Nat):B (n+1)=1000000000*B n:=by rw[B,B,Int.pow_succ];exact Int.mul_comm _ _
theorem qZ (n:Nat):1<=B n:=by
 induction n with
 | zero=>simp[B]
 | succ n ih=>rw[pi];omega
theorem Ig (m n:Nat):B (m+n)=B m*B n:=by rw[B,B,B,Int.pow_add]
theorem uN {m n:Nat}(h:m<=n):B m<=B n:=by
 induction n with
 | zero =>
  have:m=0:=(by omega);subst this;exact Int.le_refl _
 | succ n ih =>
  by_cases hm:m=n+1
  ·subst hm;exact Int.le_refl _
  have h1:=ih (by omega);have h2:=qZ n;rw[pi];omega
theorem dj.tail {x:Int}{l:ar}(h:dj (x::l)):dj l:=fun y aY=>h y (by simp[aY])
theorem dj.head {x:Int}{l:ar}(h:dj (x::l)):0<=x/\x<1000000000:=h x (by simp)
theorem dj.nil:dj []:=fun _ h=>by simp at h
theorem dj.cons {x:Int}{l:ar}(h:0<=x/\x<1000000000)(aZ:dj l):dj (x::l):=fun y aY=>by
 rcases dR.mp aY with rfl|h1
 ·exact h
 exact aZ y h1
theorem dj.get {l:ar}(h:dj l){n:Nat}{x:Int}(U:l[n]? = some x):0<=x/\x<1000000000:=h x (dH U)
theorem dj.take {l:ar}(h:dj l)(n:Nat):dj (l.take n):=fun x U=>h x (List.mem_of_mem_take U)
theorem dj.drop {l:ar}(h:dj l)(n:Nat):dj (l.drop n):=fun x U=>h x (List.mem_of_mem_drop U)
theorem dj.append {l m:ar}(h:dj l)(dc:dj m):dj (l++m):=fun x U=>by
 rcases List.mem_append.mp U with h1|h1
 ·exact h x h1
 exact dc x h1
theorem dj.set {l:ar}(h:dj l){n:Nat}{x:Int}(U:0<=x/\x<1000000000):dj (l.set n x):=fun y aY=>by
 rcases List.mem_or_eq_of_mem_set aY with h1|rfl
 ·exact h y h1
 exact U
theorem dj.Q6 (n:Nat):dj (List.replicate n 0):=fun x U=>by have:=(List.mem_replicate.mp U).2;omega
theorem Fb:V []=0:=rfl
theorem og (x:Int)(l:ar):V (x::l)=x+1000000000*V l:=rfl
theorem pd {l:ar}(h:dj l):0<=V l:=by
 induction l with
 | nil=>simp[V]
 | cons x l ih =>
  have h1:=ih h.tail;have h2:=h.head;rw[og];omega
theorem pW {l:ar}(h:dj l):V l<B l.length:=by
 induction l with
 | nil=>simp[V,B]
 | cons x l ih =>
  have h1:=ih h.tail;have h2:=h.head;rw[og,dI,pi];omega
theorem AM (a b:ar):V (a++b)=V a+B a.length*V b:=by
 induction a with
 | nil=>simp[V,B]
 | cons x a ih =>
  rw[List.cons_append,og,og,dI,pi,ih];grind
theorem Qd (n:Nat):V (List.replicate n 0)=0:=by
 induction n with
 | zero=>rfl
 | succ n ih=>rw[List.replicate_succ,og,ih];rfl
theorem wG {l:ar}{n:Nat}{x y:Int}(h:l[n]? = some y):V (l.set n x)=V l+(x-y)*B n:=by
 induction l generalizing n with
 | nil=>simp at h
 | cons z l ih =>
  cases n with
  | zero =>
   simp at h;subst h;rw[List.set_cons_zero,og,og];simp[B];omega
  | succ n =>
   rw[List.set_cons_succ,og,og,ih (by simpa using h),pi];grind
theorem AU {l:ar}{n:Nat}(h:n<=l.length):V l=V (l.take n)+B n*V (l.drop n):=by have:=AM (l.take n) (l.drop n);rw[List.take_append_drop] at this;rw[this,List.length_take,Nat.min_eq_left h]
theorem xu {l:ar}{n:Nat}{x:Int}(h:l[n]? = some x):V (l.take (n+1))=V (l.take n)+B n*x:=by
 have a2:=gD h;have:l.take (n+1)=l.take n++[x]:=by rw[List.take_add_one,h];rfl
 rw[this,AM,List.length_take,Nat.min_eq_left (by omega)];simp[V]
theorem XY {α:Type}{l:List α}{n:Nat}{x:α}(h:l[n]? = some x):l.drop n=x::l.drop (n+1):=by have a2:=gD h;rw[dy a2] at h;rw[List.drop_eq_getElem_cons a2];simp at h;rw[h]
theorem sl {l:ar}{n:Nat}{x:Int}(h:l[n]? = some x):V (l.drop n)=x+1000000000*V (l.drop (n+1)):=by rw[XY h,og]
def hh (l:ar):Prop:=dj l/\ ∀x,l.getLast? = some x->x≠0
theorem hh.nil:hh []:=⟨dj.nil,fun _ h=>by simp at h⟩
theorem hh.tail {x:Int}{l:ar}(h:hh (x::l)):hh l:=⟨h.1.tail,fun y aY=>h.2 y (by
 cases l with
 | nil=>simp at aY
 | cons z l=>simpa using aY)⟩
theorem xI {l:ar}(h:hh l)(aZ:l≠[]):0<V l:=by
 induction l with
 | nil=>exact absurd rfl aZ
 | cons x l ih =>
  have h1:=h.1.head;by_cases h2:l=[]
  ·subst h2;have:=h.2 x (by simp);simp[V];omega
  have:=ih h.tail h2;rw[og];omega
theorem Me {l:ar}(h:hh l)(aZ:l≠[]):B (l.length-1)<=V l:=by
 induction l with
 | nil=>exact absurd rfl aZ
 | cons x l ih =>
  have h1:=h.1.head;by_cases h2:l=[]
  ·subst h2;have:=h.2 x (by simp);simp[V,B];omega
  have R:=ih h.tail h2;have aj:(x::l).length-1=(l.length-1)+1:=(by have:=arF.mpr h2;simp;omega);rw[og,aj,pi];omega
def zH (n:Nat):ar:=if h:n=0 then [] else ((n % 1000000000:Nat):Int)::zH (n / 1000000000)
decreasing_by exact Nat.div_lt_self (Nat.pos_of_ne_zero h) (by decide)
def L (n:Int):ar:=zH n.toNat
theorem Zi (n:Nat):hh (zH n)/\V (zH n)=n:=by
 induction n using Nat.strongRecOn with
 | ind n ih =>
  rw[zH];by_cases h:n=0
  ·subst h;simp[V,hh.nil]
  rw[dif_neg h];obtain⟨h1,h2⟩:=ih (n / 1000000000) (Nat.div_lt_self (Nat.pos_of_ne_zero h) (by decide));refine⟨⟨dj.cons (by omega) h1.1,fun x U=> ?_⟩,?_⟩
  ·by_cases R:zH (n / 1000000000)=[]
   ·rw[R] at U h2;simp[V] at U h2;omega
   refine h1.2 x ?_
   cases aj:zH (n / 1000000000) with
   | nil=>exact absurd aj R
   | cons z l=>rw[aj] at U;simpa using U
  rw[og,h2];omega
theorem kc (n:Int):hh (L n):=(Zi _).1
theorem iS (n:Int):dj (L n):=(kc n).1
theorem lv {n:Int}(h:0<=n):V (L n)=n:=by rw[L,(Zi _).2];omega
theorem ama {a b:ar}(bH:hh a)(aO:hh b)(h:V a=V b):a=b:=by
 induction a generalizing b with
 | nil =>
  by_cases h1:b=[]
  ·exact h1.symm
  have:=xI aO h1;simp[V] at h;omega
 | cons x a ih =>
  cases b with
  | nil =>
   have:=xI bH (by simp);rw[h] at this;simp[V] at this
  | cons y b =>
   have h1:=bH.1.head;have h2:=aO.1.head;rw[og,og] at h;have R:x=y:=(by omega);have aj:=ih bH.tail aO.tail (by omega);rw[R,aj]
theorem Jd {l:ar}(h:hh l):L (V l)=l:=ama (kc _) h (lv (pd h.1))
theorem zd {l:ar}{n:Int}(h:hh l)(bh:V l=n):l=L n:=by rw[<- bh,Jd h]
theorem tH:L 0=[]:=by rw[L,zH];rfl
theorem ZP {n:Int}(h:n<=0):L n=[]:=by rw[L,Int.toNat_eq_zero.mpr h];exact tH
theorem jW {n:Int}{k:Nat}(h:0<=n):(L n).length<=k↔n<B k:=by
 constructor
 ·intro h1;have h2:=pW (iS n);rw[lv h] at h2;have:=uN h1;omega
 intro h1;by_cases h2:L n=[]
 ·rw[h2];simp
 have R:=Me (kc n) h2;rw[lv h] at R;have aj:=arF.mpr h2;apply Nat.le_of_not_lt;intro aq;have:=uN (m:=k) (n:=(L n).length-1) (by omega);omega
theorem hh.len {l:ar}(h:hh l){k:Nat}:l.length<=k↔V l<B k:=by
 have:=jW (n:=V l) (k:=k) (pd h.1)
 rwa [Jd h] at this
theorem wH {n:Int}:L n=[]↔n<=0:=by
 constructor
 ·intro h;apply Int.not_lt.mp;intro h1;have:=lv (n:=n) (by omega);rw[h] at this;simp[V] at this;omega
 exact ZP
theorem hh.pos {l:ar}(h:hh l):0<V l↔l≠[]:=by
 constructor
 ·intro h1 h2;subst h2;simp[V] at h1
 exact xI h
theorem hh.PE {l:ar}(aZ:dj l)(n:Nat)(h:∀x,l[n]? = some x->x≠0):hh (l.take (n+1))\/l.length<=n:=by
 by_cases a2:n<l.length
 ·refine .inl ⟨aZ.take _,fun x U=>h x ?_⟩;rw[List.take_add_one,dy a2,show (some l[n]).toList=[l[n]] from rfl,List.getLast?_append] at U;rw[dy a2];exact U
 exact .inr (by omega)
theorem hh.one {x:Int}(h:0<x/\x<1000000000):hh [x]:=⟨dj.cons (by omega) dj.nil,fun y aY=>by simp at aY;omega⟩
theorem Lp {x:Int}(h:0<x/\x<1000000000):L x=[x]:=(zd (hh.one h) (by simp[V])).symm
def nt (a b:Int):Int:=if a<b then -1 else if b<a then 1 else 0
theorem Lq {a b:ar}(bH:hh a)(aO:hh b)(h:a.length<b.length):V a<V b:=by
 have h1:=pW bH.1;have ou:b≠[]:=by intro h2;rw[h2] at h;simp at h
 have h2:=Me aO ou;have:=uN (m:=a.length) (n:=b.length-1) (by omega);omega
theorem YC {a b:ar}(bH:dj a)(aO:dj b){n:Nat}{x y:Int}(U:a[n]? = some x)(aY:b[n]? = some y)(h:V (a.drop (n+1))=V (b.drop (n+1)))(Q7:x<y):V a<V b:=by
 have h1:=AU (Nat.le_of_lt (gD U));have h2:=AU (Nat.le_of_lt (gD aY));rw[sl U] at h1;rw[sl aY,<- h] at h2;have R:=pW (bH.take n);have aj:=pd (aO.take n);rw[List.length_take,Nat.min_eq_left (Nat.le_of_lt (gD U))] at R;have aq:=qZ n;rw[h1,h2];generalize V (a.drop (n+1))=t at *;generalize V (a.take n)=p at *;generalize V (b.take n)=q at *;generalize B n=w at *;have:w*(x+1000000000*t)+w<=w*(y+1000000000*t):=by have aM:w*(x+1000000000*t+1)<=w*(y+1000000000*t):=dL (by omega) (by omega);rw[Int.mul_add,Int.mul_one] at aM;exact aM
 omega
section
variable {α β bV:Type}
theorem az {o:Option β}{f:β->Option α}{x:β}{r:Option α}(h:o=some x)(k:f x=r):(o >>= f)=r:=by rw[h];exact k
theorem cE {p:Prop}[Decidable p] {x r:Option α} (h:p) (k:x=r):(if p then x else none)=r:=by rw[dz h];exact k
theorem gd {b:Bool}{x y r:α}(h:b=true)(k:x=r):(if b=true then x else y)=r:=by rw[dz h];exact k
theorem iQ {b:Bool}{x y r:α}(h:b=false)(k:y=r):(if b=true then x else y)=r:=by rw[dB (by rw[h];exact Bool.false_ne_true)];exact k
theorem lT {p:Prop}[Decidable p] {x y r:α} (h:p) (k:x=r):(if decide p=true then x else y)=r:=by rw[dz (decide_eq_true h)];exact k
theorem la {p:Prop}[Decidable p] {x y r:α} (h : ¬p) (k:y=r):(if decide p=true then x else y)=r:=by rw[dB (by simpa using h)];exact k
theorem sb {b:Bool}{x y r:α}(h1:b=true->x=r)(h2:b=false->y=r):(if b=true then x else y)=r:=by
 cases b
 ·exact h2 rfl
 exact h1 rfl
theorem RN {o:Option bV}{x r:α}{f:bV->α}(h:o=none)(k:x=r):o.elim x f=r:=by rw[h];exact k
theorem RO {o:Option bV}{y:bV}{x r:α}{f:bV->α}(h:o=some y)(k:f y=r):o.elim x f=r:=by rw[h];exact k
theorem gt {l:List α}{i:Int}{n:Nat}{x:α}(e:i=n)(h:l[n]? = some x):l[i.toNat]? = some x:=by rw[e,dw];exact h
theorem FG {a b:Int}(h:a=b):(a == b)=true:=by simp[h]
theorem zs {a b:Int}(h:a≠b):(a == b)=false:=by simp[h]
theorem x4 {a b:Int}(h:a≠b):(a != b)=true:=by simp[h]
theorem vR {a b:Int}(h:a=b):(a != b)=false:=by simp[h]
theorem uH {ka qn:Type}{f:qn->Option (qn⊕β)}(du:Nat->ka->qn)(N:Nat)(fG:Nat->ka->Prop)(Q:β->Prop)
 (h : ∀n,n<N-> ∀s,fG n s->(∃cg,f (du n s)=some (.inl (du (n+1) cg))/\fG (n+1) cg)\/(∃r,f (du n s)=some (.inr r)/\Q r))
 (he : ∀s,fG N s-> ∃r,f (du N s)=some (.inr r)/\Q r) (lS:ka) (h0:fG 0 lS) : ∃r,iter f (du 0 lS)=some r/\Q r:=by
 have key : ∀(d n:Nat) (s:ka),n+d=N->fG n s-> ∃r,iter f (du n s)=some r/\Q r:=by
  intro d
  induction d with
  | zero =>
   intro n s a2 dh;obtain rfl:n=N:=(by omega);obtain⟨r,h1,h2⟩:=he s dh;exact⟨r,by rw[iter,h1];rfl,h2⟩
  | succ d ih =>
   intro n s a2 dh;rcases h n (by omega) s dh with ⟨cg,h1,h2⟩|⟨r,h1,h2⟩
   ·obtain⟨r,R,aj⟩:=ih (n+1) cg (by omega) h2;exact⟨r,by rw[iter,h1];exact R,aj⟩
   exact⟨r,by rw[iter,h1];rfl,h2⟩
 exact key N 0 lS (by omega) h0
theorem ic {ka qn:Type}{f:qn->Option (qn⊕β)}(du:Nat->ka->qn)(N:Nat)(fG:Nat->ka->Prop)(e:ka->β)
 (h : ∀n,n<N-> ∀s,fG n s-> ∃cg,f (du n s)=some (.inl (du (n+1) cg))/\fG (n+1) cg)
 (he : ∀s,fG N s->f (du N s)=some (.inr (e s))) (lS:ka) (h0:fG 0 lS) : ∃s,iter f (du 0 lS)=some (e s)/\fG N s:=by
 obtain⟨r,h1,s,rfl,h2⟩:=uH du N fG (fun r=> ∃s,r=e s/\fG N s) (fun n a2 s dh=> .inl (h n a2 s dh)) (fun s dh=>⟨_,he s dh,s,rfl,dh⟩) lS h0;exact⟨s,h1,h2⟩
end
def cH:Nat->(Nat->Rat)->Rat
 | 0,_=>0
 | n+1,f=>cH n f+f n
theorem gT {f g:Nat->Rat}: ∀ {n:Nat},(∀i,i<n->f i=g i)->cH n f=cH n g
 | 0,_=>rfl
 | n+1,h=>by rw[cH,cH,gT fun i aa=>h i (Nat.lt_succ_of_lt aa),h n (Nat.lt_succ_self n)]
theorem pC : ∀ {n:Nat} {f:Nat->Rat},(∀i,i<n->f i=0)->cH n f=0
 | 0,_,_=>rfl
 | n+1,f,h=>by rw[cH,pC fun i aa=>h i (Nat.lt_succ_of_lt aa),h n (Nat.lt_succ_self n)];grind
theorem AA (f g:Nat->Rat): ∀n,cH n (fun i=>f i+g i)=cH n f+cH n g
 | 0=>by simp only[cH];grind
 | n+1=>by simp only[cH,AA f g n];grind
theorem vu (f g:Nat->Rat): ∀n,cH n (fun i=>f i-g i)=cH n f-cH n g
 | 0=>by simp only[cH];grind
 | n+1=>by simp only[cH,vu f g n];grind
theorem kQ (c:Rat)(f:Nat->Rat): ∀n,cH n (fun i=>c*f i)=c*cH n f
 | 0=>by simp only[cH];grind
 | n+1=>by simp only[cH,kQ c f n];grind
theorem xm (c:Rat)(f:Nat->Rat)(n:Nat):cH n (fun i=>f i*c)=cH n f*c:=by rw[gT (g:=fun i=>c*f i) (fun i _=>Rat.mul_comm _ _),kQ,Rat.mul_comm]
theorem sV (f:Nat->Nat->Rat)(m:Nat): ∀n,cH n (fun i=>cH m (f i))=cH m (fun j=>cH n (fun i=>f i j))
 | 0=>by simp only[cH];exact(pC fun _ _=>rfl).symm
 | n+1=>by simp only[cH,sV f m n];rw[<- AA]
theorem mx {n k:Nat}(a4:k<n){f:Nat->Rat}(h:∀i,i<n->i≠k->f i=0):cH n f=f k:=by
 induction n with
 | zero=>omega
 | succ n ih =>
  rw[cH];by_cases e:k=n
  ·subst e;rw[pC fun i aa=>h i (by omega) (by omega)];grind
  rw[ih (by omega) fun i aa dX=>h i (by omega) dX,h n (by omega) (by omega)];grind
theorem xg {f:Nat->Rat}: ∀ {n:Nat},(∀i,i<n->0<=f i)->0<=cH n f
 | 0,_=>by simp only[cH];grind
 | n+1,h=>by have h1:=xg (n:=n) fun i aa=>h i (Nat.lt_succ_of_lt aa);have h2:=h n (Nat.lt_succ_self n);simp only[cH];grind
theorem ajG {f g:Nat->Rat}{n:Nat}(h:∀i,i<n->f i<=g i):cH n f<=cH n g:=by
 have:=xg (n:=n) (f:=fun i=>g i-f i) fun i aa=>by have:=h i aa;grind
 rw[vu] at this;grind
theorem Oy {f:Nat->Rat}: ∀ {n:Nat},(∀i,i<n->0<=f i)->cH n f=0-> ∀i,i<n->f i=0
 | 0,_,_,i,aa=>by omega
 | n+1,h,bS,i,aa=>by
  have h1:=xg (n:=n) fun i aa=>h i (Nat.lt_succ_of_lt aa);have h2:=h n (Nat.lt_succ_self n);simp only[cH] at bS;by_cases e:i=n
  ·subst e;grind
  exact Oy (n:=n) (fun i aa=>h i (by omega)) (by grind) i (by omega)
theorem OL (m:Nat)(f:Nat->Rat): ∀n,cH (m+n) f=cH m f+cH n (fun i=>f (m+i))
 | 0=>by simp only[cH,Nat.add_zero];grind
 | n+1=>by rw[<- Nat.add_assoc,cH,cH,OL m f n];grind
def jD (K:Nat)(g:Nat->Rat):Prop:= ∃l,l<K/\0<g l/\ ∀gW,gW<l->g gW=0
def HL (K:Nat)(g:Nat->Rat):Prop:= ∀l,l<K->g l=0
theorem jD.congr {K:Nat}{g hs:Nat->Rat}(h:jD K g)(e:∀l,l<K->g l=hs l):jD K hs:=by obtain⟨l,h1,h2,R⟩:=h;exact⟨l,h1,by rw[<- e l h1];exact h2,fun gW aZ=>by rw[<- e gW (by omega)];exact R gW aZ⟩
theorem jD.not_zero {K:Nat}{g:Nat->Rat}(h:jD K g)(z:HL K g):False:=by obtain⟨l,h1,h2,R⟩:=h;have:=z l h1;grind
theorem K0 (K:Nat)(g:Nat->Rat):jD K g\/HL K g\/jD K (fun l=> - g l):=by
 induction K with
 | zero=>exact .inr (.inl fun l aZ=>by omega)
 | succ K ih =>
  rcases ih with ⟨l,h1,h2,R⟩|h|⟨l,h1,h2,R⟩
  ·exact .inl ⟨l,by omega,h2,R⟩
  ·by_cases c:g K=0
   ·exact .inr (.inl fun l aZ=>if e:l=K then e▸c else h l (by omega))
   by_cases p:0<g K
   ·exact .inl ⟨K,by omega,p,h⟩
   exact .inr (.inr ⟨K,by omega,by grind,fun gW aZ=>by have:=h gW aZ;grind⟩)
  exact .inr (.inr ⟨l,by omega,h2,R⟩)
theorem jD.not_neg {K:Nat}{g:Nat->Rat}(h:jD K g)(dc:jD K (fun l=> - g l)):False:=by
 obtain⟨l,h1,h2,R⟩:=h;obtain⟨k,k0,kh,pB⟩:=dc;rcases Nat.lt_trichotomy l k with c|c|c
 ·have:=pB l c;grind
 ·subst c;grind
 have:=R k c;grind
theorem jD.add {K:Nat}{g hs:Nat->Rat}(h:jD K g)(dc:jD K hs):jD K (fun l=>g l+hs l):=by
 obtain⟨l,h1,h2,R⟩:=h;obtain⟨k,k0,kh,pB⟩:=dc;rcases Nat.lt_trichotomy l k with c|c|c
 ·exact⟨l,h1,by have:=pB l c;grind,fun gW aZ=>by have:=R gW aZ;have:=pB gW (by omega);grind⟩
 ·subst c;exact⟨l,h1,by grind,fun gW aZ=>by have:=R gW aZ;have:=pB gW aZ;grind⟩
 exact⟨k,k0,by have:=R k c;grind,fun gW aZ=>by have:=R gW (by omega);have:=pB gW aZ;grind⟩
theorem jD.add_zero {K:Nat}{g hs:Nat->Rat}(h:jD K g)(dc:HL K hs):jD K (fun l=>g l+hs l) :=
 h.congr fun l aZ=>by have:=dc l aZ;grind
theorem jD.mul {K:Nat}{g:Nat->Rat}(h:jD K g){c:Rat}(a1:0<c):jD K (fun l=>c*g l):=by obtain⟨l,h1,h2,R⟩:=h;exact⟨l,h1,Rat.mul_pos a1 h2,fun gW aZ=>by have:=R gW aZ;grind⟩
theorem jD.Zk {K:Nat}{g:Nat->Rat}{c:Rat}(h:jD K (fun l=>c*g l)):(0<c/\jD K g)\/(c<0/\jD K (fun l=> - g l)):=by
 rcases K0 K g with p|p|p
 ·by_cases a1:0<c
  ·exact .inl ⟨a1,p⟩
  by_cases h0:c=0
  ·exact(h.not_zero fun l _=>by grind).elim
  exact(h.not_neg ((p.mul (c:= -c) (by grind)).congr fun l _=>by grind)).elim
 ·exact(h.not_zero fun l aZ=>by have:=p l aZ;grind).elim
 by_cases a1:c<0
 ·exact .inr ⟨a1,p⟩
 by_cases h0:c=0
 ·exact(h.not_zero fun l _=>by grind).elim
 exact(h.not_neg ((p.mul (c:=c) (by grind)).congr fun l _=>by grind)).elim
theorem jD.PU {K:Nat}{v:Nat->Nat->Rat}: ∀ {n:Nat},jD K (fun l=>cH n (fun j=>v j l))-> ∃j,j<n/\jD K (v j)
 | 0,h=>(h.not_zero fun l _=>rfl).elim
 | n+1,h=>by
  by_cases c:jD K (v n)
  ·exact⟨n,by omega,c⟩
  have:jD K (fun l=>cH n (fun j=>v j l)):=by
   rcases K0 K (fun l=>cH n (fun j=>v j l)) with p|p|p
   ·exact p
   ·exact(c (h.congr fun l aZ=>by have:=p l aZ;simp only[cH];grind)).elim
   rcases K0 K (v n) with q|q|q
   ·exact(c q).elim
   ·exact(h.not_neg (p.congr fun l aZ=>by have:=q l aZ;simp only[cH];grind)).elim
   exact(h.not_neg ((p.add q).congr fun l aZ=>by simp only[cH];grind)).elim
  obtain⟨j,h1,h2⟩:=jD.PU this;exact⟨j,by omega,h2⟩
structure b8 where
 T:Nat->Nat->Rat
 B:Nat->Nat
structure hZ (ft m N:Nat) (A:Nat->Nat->Rat) (t:b8):Prop where
 u7 : ∀c,c<ft-> ∀j,j<=N->A c j=cH m (fun i=>A c (t.B i)*t.T i j)
 row : ∃W:Nat->Nat->Rat,∀i,i<m-> ∀j,j<=N->t.T i j=cH ft (fun c=>W i c*A c j)
 unit : ∀i,i<m-> ∀k,k<m->t.T i (t.B k)=if i=k then 1 else 0
 kA : ∀i,i<m->t.B i<N
def b8.cA (t:b8)(r k:Nat):b8 where
 T:=fun i j=>if i=r then t.T r j / t.T r k else t.T i j-t.T i k*(t.T r j / t.T r k)
 B:=fun i=>if i=r then k else t.B i
def b8.cF (m:Nat)(obj:Nat->Rat)(t:b8)(j:Nat):Rat:=obj j-cH m (fun i=>obj (t.B i)*t.T i j)
section
variable {ft m N:Nat} {A:Nat->Nat->Rat} {t:b8}
theorem hZ.inj (h:hZ ft m N A t){i k:Nat}(aa:i<m)(a4:k<m)(e:t.B i=t.B k):i=k:=by
 have h1:=h.unit i aa k a4;rw[<- e,h.unit i aa i aa,dz rfl] at h1;by_cases c:i=k
 ·exact c
 rw[dB c] at h1;grind
theorem hZ.cA (h:hZ ft m N A t){r k:Nat}(ak:r<m)(a4:k<N)(ai:t.T r k≠0):hZ ft m N A (t.cA r k) where
 u7:=by
  intro c a1 j ap;rw[h.u7 c a1 j ap];have p6:=h.u7 c a1 k (by omega)
  have e:cH m (fun i=>A c ((t.cA r k).B i)*(t.cA r k).T i j)=cH m (fun i=>A c (t.B i)*t.T i j)+(t.T r j / t.T r k)*(A c k-cH m (fun i=>A c (t.B i)*t.T i k)):=by
   have e1 : ∀i,i<m->A c ((t.cA r k).B i)*(t.cA r k).T i j=(A c (t.B i)*t.T i j-(t.T r j / t.T r k)*(A c (t.B i)*t.T i k))+(if i=r then (t.T r j / t.T r k)*A c k else 0):=by
    intro i aa;simp only[b8.cA];by_cases e:i=r
    ·subst e;simp only[if_true];grind
    simp only[dB e];grind
   rw[gT e1,AA,vu,kQ,mx ak (f:=fun i=>if i=r then (t.T r j / t.T r k)*A c k else 0) (fun i _ dX=>dB dX),dz rfl];grind
  rw[e,<- p6];grind
 row:=by
  obtain⟨W,hW⟩:=h.row;refine⟨fun i c=>if i=r then W r c / t.T r k else W i c-t.T i k*(W r c / t.T r k),fun i aa j ap=> ?_⟩;simp only[b8.cA];by_cases e:i=r
  ·subst e;simp only[if_true];rw[gT (f:=fun c=>W i c / t.T i k*A c j) (g:=fun c=>(1 / t.T i k)*(W i c*A c j)) (fun c _=>by grind),kQ,<- hW i aa j ap];grind
  simp only[dB e];rw[gT (f:=fun c=>(W i c-t.T i k*(W r c / t.T r k))*A c j) (g:=fun c=>W i c*A c j-(t.T i k / t.T r k)*(W r c*A c j)) (fun c _=>by grind),vu,kQ,<- hW i aa j ap,<- hW r ak j ap];grind
 unit:=by
  intro i aa eh p6;simp only[b8.cA];by_cases e:i=r
  ·subst e
   simp only[if_true];by_cases fA:eh=i
   ·subst fA;simp only[if_true];grind
   simp only[dB fA];rw[h.unit i aa eh p6,dB (fun x=>fA x.symm)];grind
  simp only[dB e];by_cases fA:eh=r
  ·subst fA;simp only[if_true,dB e];grind
  simp only[dB fA];rw[h.unit i aa eh p6,h.unit r ak eh p6,dB (c:=r=eh) (fun x=>fA x.symm)];grind
 kA:=fun i aa=>by
  simp only[b8.cA];split
  ·exact a4
  exact h.kA i aa
theorem hZ.Ax (h:hZ ft m N A t)(obj:Nat->Rat){i:Nat}(aa:i<m):t.cF m obj (t.B i)=0:=by unfold b8.cF;rw[mx aa (f:=fun fU=>obj (t.B fU)*t.T fU (t.B i)) (fun k a4 dX=>by rw[h.unit k a4 i aa,dB dX];grind),h.unit i aa i aa,dz rfl];grind
theorem hZ.Lb (h:hZ ft m N A t)(obj:Nat->Rat){r k:Nat}(ak:r<m)(a4:k<N)(ai:t.T r k≠0)(j:Nat):
 (t.cA r k).cF m obj j=t.cF m obj j-t.cF m obj k*(t.T r j / t.T r k):=by
 unfold b8.cF
 have e1 : ∀i,i<m->obj ((t.cA r k).B i)*(t.cA r k).T i j=(obj (t.B i)*t.T i j-(t.T r j / t.T r k)*(obj (t.B i)*t.T i k))+(if i=r then (t.T r j / t.T r k)*obj k else 0):=by
  intro i aa;simp only[b8.cA];by_cases e:i=r
  ·subst e;simp only[if_true];grind
  simp only[dB e];grind
 rw[gT e1,AA,vu,kQ,mx ak (f:=fun i=>if i=r then (t.T r j / t.T r k)*obj k else 0) (fun i _ dX=>dB dX),dz rfl];grind
theorem hZ.ajH (h:hZ ft m N A t){z:Nat->Rat}(cK:∀c,c<ft->cH N (fun j=>A c j*z j)=0){i:Nat}(aa:i<m):cH N (fun j=>t.T i j*z j)=0:=by obtain⟨W,hW⟩:=h.row;rw[gT (g:=fun j=>cH ft (fun c=>W i c*(A c j*z j))) (fun j ap=>by rw[hW i aa j (by omega),<- xm];exact gT fun c _=>by grind),sV];exact pC fun c a1=>by rw[kQ,cK c a1];grind
theorem hZ.ajI (h:hZ ft m N A t)(obj:Nat->Rat){z:Nat->Rat}(cK:∀c,c<ft->cH N (fun j=>A c j*z j)=0):
 cH N (fun j=>z j*t.cF m obj j)=cH N (fun j=>obj j*z j):=by
 unfold b8.cF;rw[gT (g:=fun j=>obj j*z j-cH m (fun i=>obj (t.B i)*(t.T i j*z j))) (fun j _=>by rw[gT (f:=fun i=>obj (t.B i)*(t.T i j*z j)) (g:=fun i=>z j*(obj (t.B i)*t.T i j)) (fun i _=>by grind),kQ];grind),vu,sV];rw[pC (n:=m) fun i aa=>by rw[kQ,h.ajH cK aa];grind];grind
def b8.dir (m:Nat)(t:b8)(s j:Nat):Rat:=(if j=s then 1 else 0)-cH m (fun i=>if t.B i=j then t.T i s else 0)
theorem hZ.YD (h:hZ ft m N A t){s:Nat}(bS:s<N)(f:Nat->Rat):cH N (fun j=>f j*t.dir m s j)=f s-cH m (fun i=>f (t.B i)*t.T i s):=by unfold b8.dir;rw[gT (g:=fun j=>(if j=s then f s else 0)-cH m (fun i=>if t.B i=j then f (t.B i)*t.T i s else 0)) (fun j _=>by have e:cH m (fun i=>if t.B i=j then f (t.B i)*t.T i s else 0)=f j*cH m (fun i=>if t.B i=j then t.T i s else 0):=(by rw[<- kQ];exact gT fun i _=>by split<;>grind);rw[e];split<;>grind),vu,mx bS (f:=fun j=>if j=s then f s else 0) (fun i _ dX=>dB dX),dz rfl,sV];congr 1;exact gT fun i aa=>by rw[mx (h.kA i aa) (f:=fun j=>if t.B i=j then f (t.B i)*t.T i s else 0) (fun j _ dX=>dB fun x=>dX x.symm),dz rfl]
theorem hZ.ajJ (h:hZ ft m N A t){s:Nat}(bS:s<N): ∀c,c<ft->cH N (fun j=>A c j*t.dir m s j)=0:=by intro c a1;rw[h.YD bS,<- h.u7 c a1 s (by omega)];grind
theorem hZ.ajK (h:hZ ft m N A t){s:Nat}(bS:s<N)(obj:Nat->Rat):cH N (fun j=>obj j*t.dir m s j)=t.cF m obj s:=h.YD bS obj
theorem hZ.same {cW:b8}(h:hZ ft m N A t)(dc:hZ ft m N A cW)(e:∀i,i<m->t.B i=cW.B i){i:Nat}(aa:i<m){j:Nat}(ap:j<=N):t.T i j=cW.T i j:=by obtain⟨W,hW⟩:=h.row;rw[hW i aa j ap,gT (g:=fun c=>cH m (fun k=>W i c*(A c (cW.B k)*cW.T k j))) (fun c a1=>by rw[dc.u7 c a1 j ap,kQ]),sV];rw[gT (g:=fun k=>(if i=k then cW.T k j else 0)) (fun k a4=>by rw[gT (g:=fun c=>(W i c*A c (cW.B k))*cW.T k j) (fun c _=>by grind),xm,<- e k a4,<- hW i aa (t.B k) (Nat.le_of_lt (h.kA k a4)),h.unit i aa k a4];split<;>grind)];rw[mx aa (f:=fun k=>if i=k then cW.T k j else 0) (fun k _ dX=>dB fun x=>dX x.symm),dz rfl]
end
def b8.nW (m N:Nat)(t:b8):Prop:= ∀i,i<m->0<=t.T i N
def b8.sP (m K:Nat)(obj:Nat->Nat->Rat)(t:b8)(j:Nat):Prop:=jD K (fun l=>t.cF m (obj l) j)
structure qy (m N K:Nat) (obj:Nat->Nat->Rat) (bN:Nat->Prop) (t:b8) (r s:Nat):Prop where
 bS:s<N
 Je:bN s
 gs:t.sP m K obj s
 least : ∀j,j<s->bN j-> ¬t.sP m K obj j
 ak:r<m
 pos:0<t.T r s
 ratio : ∀i,i<m->0<t.T i s->t.T r N*t.T i s<=t.T i N*t.T r s
 tie : ∀i,i<m->0<t.T i s->t.T r N*t.T i s=t.T i N*t.T r s->t.B r<=t.B i
section
variable {ft m N K:Nat} {A obj:Nat->Nat->Rat} {bN:Nat->Prop}
theorem qy.ok {t:b8}{r s:Nat}(b:qy m N K obj bN t r s)(h:hZ ft m N A t):hZ ft m N A (t.cA r s):=h.cA b.ak b.bS (by have:=b.pos;grind)
theorem qy.IF {t:b8}{r s:Nat}(b:qy m N K obj bN t r s)(h:t.nW m N):(t.cA r s).nW m N:=by
 intro i aa;have ai:=b.pos;have anA:=h r b.ak;have a0:0<=t.T r N / t.T r s:=by rw[Rat.div_def];exact arH anA (Rat.le_of_lt (Rat.inv_pos.2 ai))
 simp only[b8.cA];split
 ·exact a0
 by_cases c:0<t.T i s
 ·have h1:=b.ratio i aa c;have h2:t.T i s*(t.T r N / t.T r s)<=t.T i N:=(by have e:t.T i s*(t.T r N / t.T r s)=(t.T r N*t.T i s)*(1 / t.T r s):=(by grind);have e2:t.T i N=(t.T i N*t.T r s)*(1 / t.T r s):=(by grind);rw[e,e2];exact Rat.mul_le_mul_of_nonneg_right h1 (by rw[Rat.div_def,Rat.one_mul];exact Rat.le_of_lt (Rat.inv_pos.2 ai)));grind
 have h1:=h i aa;have h2:0<=(- t.T i s)*(t.T r N / t.T r s):=arH (by grind) a0;grind
theorem WW (f:Nat->Nat): ∀p,0<p-> ∃b,b<p/\ ∀k,k<p->f k<=f b
 | 0,h=>by omega
 | 1,_=>⟨0,by omega,fun k a4=>by rw[show k=0 by omega];exact dE _⟩
 | p+2,_=>by
  obtain⟨b,h1,h2⟩:=WW f (p+1) (by omega);by_cases c:f (p+1)<=f b
  ·exact⟨b,by omega,fun k a4=>if e:k=p+1 then e▸c else h2 k (by omega)⟩
  exact⟨p+1,by omega,fun k a4=>if e:k=p+1 then e▸dE _ else Nat.le_trans (h2 k (by omega)) (by omega)⟩
theorem ajL {t:Nat->b8}{r s:Nat->Nat}{p:Nat}(ai:0<p)(h0:hZ ft m N A (t 0))(f0:(t 0).nW m N)
 (du : ∀n,n<p->qy m N K obj bN (t n) (r n) (s n)) (rq : ∀n,n<p->t (n+1)=(t n).cA (r n) (s n)) (back : ∀i,i<m->(t p).B i=(t 0).B i):False:=by
 have ok : ∀n,n<=p->hZ ft m N A (t n)/\(t n).nW m N:=by
  intro n
  induction n with
  | zero=>intro _;exact⟨h0,f0⟩
  | succ n ih =>
   intro a2;obtain⟨a,b⟩:=ih (by omega);rw[rq n (by omega)];exact⟨(du n (by omega)).ok a,(du n (by omega)).IF b⟩
 have aoQ : ∀n,n<p->0<=(t n).T (r n) N / (t n).T (r n) (s n):=fun n a2=>by rw[Rat.div_def];exact arH ((ok n (by omega)).2 _ (du n a2).ak) (Rat.le_of_lt (Rat.inv_pos.2 (du n a2).pos))
 have hk : ∀n,n<=p->jD K (fun l=>(t 0).cF m (obj l) N-(t n).cF m (obj l) N)\/(HL K (fun l=>(t 0).cF m (obj l) N-(t n).cF m (obj l) N)/\ ∀k,k<n->(t k).T (r k) N=0):=by
  intro n
  induction n with
  | zero=>intro _;exact .inr ⟨fun l _=>by grind,fun k a4=>by omega⟩
  | succ n ih =>
   intro a2;have b:=du n (by omega);have mC:=b.pos;have e : ∀l,(t 0).cF m (obj l) N-(t (n+1)).cF m (obj l) N=((t n).T (r n) N / (t n).T (r n) (s n))*(t n).cF m (obj l) (s n)+((t 0).cF m (obj l) N-(t n).cF m (obj l) N):=fun l=>(by rw[rq n (by omega),(ok n (by omega)).1.Lb (obj l) b.ak b.bS (by grind)];grind);by_cases c:(t n).T (r n) N=0
   ·have z : ∀l,(t 0).cF m (obj l) N-(t (n+1)).cF m (obj l) N=(t 0).cF m (obj l) N-(t n).cF m (obj l) N:=fun l=>by rw[e,c];grind
    rcases ih (by omega) with h|⟨h1,h2⟩
    ·exact .inl (h.congr fun l _=>(z l).symm)
    refine .inr ⟨fun l aZ=>by have:=h1 l aZ;simp only at this ⊢;rw[z l];exact this,fun k a4=> ?_⟩;by_cases w5:k=n
    ·rw[w5];exact c
    exact h2 k (by omega)
   have RP:0<(t n).T (r n) N / (t n).T (r n) (s n):=(by have h1:=aoQ n (by omega);have h2:(t n).T (r n) N / (t n).T (r n) (s n)≠0:=fun x=>c (by grind);grind);have g1:jD K (fun l=>((t n).T (r n) N / (t n).T (r n) (s n))*(t n).cF m (obj l) (s n)):=jD.mul b.gs RP;left;rcases ih (by omega) with h|⟨h1,-⟩
   ·exact(g1.add h).congr fun l _=>(e l).symm
   exact(g1.add_zero h1).congr fun l _=>(e l).symm
 have zero : ∀k,k<p->(t k).T (r k) N=0:=by
  rcases hk p (dE _) with h|h
  ·refine(h.not_zero fun l _=> ?_).elim;unfold b8.cF;rw[gT (f:=fun i=>obj l ((t p).B i)*(t p).T i N) (g:=fun i=>obj l ((t 0).B i)*(t 0).T i N) fun i aa=>by rw[back i aa,(ok p (dE _)).1.same (ok 0 (by omega)).1 back aa (dE _)]];grind
  exact h.2
 have const : ∀n,n<=p-> ∀i,i<m->(t n).T i N=(t 0).T i N:=by
  intro n
  induction n with
  | zero=>intros;rfl
  | succ n ih =>
   intro a2 i aa;rw[<- ih (by omega) i aa,rq n (by omega)];simp only[b8.cA];have:=zero n (by omega);split
   ·rename_i e;rw[e,this];grind
   rw[this];grind
 have Q8 : ∀n,n<p-> ∀i,i<m->(t n).B i≠s n:=fun n a2 i aa e=>by refine jD.not_zero (du n a2).gs fun l _=> ?_;rw[<- e];exact(ok n (by omega)).1.Ax (obj l) aa
 have zI : ∀d n,n+d<=p-> ∀j,(∀i,i<m->(t n).B i≠j)->(∀k,n<=k->k<n+d->s k≠j)-> ∀i,i<m->(t (n+d)).B i≠j:=by
  intro d
  induction d with
  | zero=>intro n a2 j h1 h2;exact h1
  | succ d ih =>
   intro n a2 j h1 h2 i aa;rw[<- Nat.add_assoc,rq (n+d) (by omega)];simp only[b8.cA];split
   ·exact h2 (n+d) (by omega) (by omega)
   exact ih n (by omega) j h1 (fun k a b=>h2 k a (by omega)) i aa
 have abC : ∀d n,n+d<=p-> ∀i,i<m->(∀k,n<=k->k<n+d->r k≠i)->(t (n+d)).B i=(t n).B i:=by
  intro d
  induction d with
  | zero=>intros;rfl
  | succ d ih =>
   intro n a2 i aa h2;rw[<- Nat.add_assoc,rq (n+d) (by omega)];simp only[b8.cA];rw[dB fun e=>h2 (n+d) (by omega) (by omega) e.symm];exact ih n (by omega) i aa (fun k a b=>h2 k a (by omega))
 have abD : ∀d n,n+d<=p-> ∀i,i<m-> ∀q,(t n).B i=q->(∀k,n<=k->k<n+d->(t k).B (r k)≠q)->(t (n+d)).B i=q:=by
  intro d
  induction d with
  | zero=>intro n a2 i aa q h1 h2;exact h1
  | succ d ih =>
   intro n a2 i aa q h1 h2;have R:=ih n (by omega) i aa q h1 (fun k a b=>h2 k a (by omega));rw[<- Nat.add_assoc,rq (n+d) (by omega)];simp only[b8.cA];rw[dB fun e=>h2 (n+d) (by omega) (by omega) (by rw[<- e];exact R)];exact R
 obtain⟨b,aO,Z9⟩:=WW s p ai;have Ca:=du b aO;have aoR : ∃a,a<p/\(t a).B (r a)=s b:=by apply Classical.byContradiction;intro dX;have q9 : ∀a,a<p->(t a).B (r a)≠s b:=fun a bH e=>dX ⟨a,bH,e⟩;have e1:(t (b+1)).B (r b)=s b:=(by rw[rq b aO];simp[b8.cA]);have e2:=abD (p-(b+1)) (b+1) (by omega) (r b) Ca.ak (s b) e1 (fun k _ a4=>q9 k (by omega));rw[show b+1+(p-(b+1))=p by omega,back _ Ca.ak] at e2;have bG:=abD b 0 (by omega) (r b) Ca.ak (s b) e2 (fun k _ a4=>q9 k (by omega));rw[dG] at bG;exact Q8 b aO _ Ca.ak bG
 obtain⟨a,bH,a0⟩:=aoR;have zJ:=du a bH;have M5:=(ok a (by omega)).1;have aaL:=(ok b (by omega)).1;have anB:s a<s b:=by have h1:=Z9 a bH;have h2:s a≠s b:=fun e=>Q8 a bH (r a) zJ.ak (a0.trans e.symm);omega
 have aaa:jD K (fun l=>cH N (fun j=>(t a).dir m (s a) j*(t b).cF m (obj l) j)) :=
  jD.congr zJ.gs fun l _=>by rw[aaL.ajI (obj l) (M5.ajJ zJ.bS),M5.ajK zJ.bS]
 obtain⟨j,ap,amC⟩:=jD.PU (v:=fun j l=>(t a).dir m (s a) j*(t b).cF m (obj l) j) aaa;have hmul:=amC.Zk;by_cases zK:j=s a
 ·have bI:(t a).dir m (s a) j=1:=by
   unfold b8.dir;rw[dz zK,pC fun i aa=>dB (by rw[zK];exact Q8 a bH i aa)];grind
  rw[bI] at hmul;rcases hmul with ⟨-,h⟩|⟨h,-⟩
  ·rw[zK] at h;exact Ca.least (s a) anB zJ.Je h
  grind
 by_cases aab : ∃i,i<m/\(t a).B i=j;rotate_left
 ·have bI:(t a).dir m (s a) j=0:=by
   unfold b8.dir;rw[dB zK,pC fun i aa=>dB fun e=>aab ⟨i,aa,e⟩];grind
  rw[bI] at hmul;rcases hmul with ⟨h,-⟩|⟨h,-⟩<;>grind
 obtain⟨i,aa,sE⟩:=aab;have bI:(t a).dir m (s a) j = - (t a).T i (s a):=by unfold b8.dir;rw[dB zK,mx aa (fun k a4 dX=>dB fun e=>dX (M5.inj a4 aa (e.trans sE.symm))),dz sE];grind
 rw[bI] at hmul
 have aaM : ∀k,k<m->(t b).B k≠j:=fun k a4 e=>by
  have z:HL K (fun l=>(t b).cF m (obj l) j):=fun l _=>(by rw[<- e];exact aaL.Ax (obj l) a4);rcases hmul with ⟨-,h⟩|⟨-,h⟩
  ·exact h.not_zero z
  exact h.not_zero fun l aZ=>by have:=z l aZ;simp only at this ⊢;grind
 have anC : ∃k,k<p/\s k=j:=by apply Classical.byContradiction;intro dX;have q9 : ∀k,k<p->s k≠j:=fun k a4 e=>dX ⟨k,a4,e⟩;have e1:=zI (p-b) b (by omega) j aaM (fun k _ a4=>q9 k (by omega));rw[show b+(p-b)=p by omega] at e1;have e2:=zI a 0 (by omega) j (fun k a4=>by rw[<- back k a4];exact e1 k a4) (fun k _ a4=>q9 k (by omega));rw[dG] at e2;exact e2 i aa sE
 obtain⟨k,a4,I9⟩:=anC;have aqv:j<=s b:=by rw[<- I9];exact Z9 k a4
 have anD:bN j:=by rw[<- I9];exact(du k a4).Je
 have amD : ∃k,k<p/\r k=i:=by apply Classical.byContradiction;intro dX;have q9 : ∀k,k<p->r k≠i:=fun k a4 e=>dX ⟨k,a4,e⟩;have e1:=abC a 0 (by omega) i aa (fun k _ a4=>q9 k (by omega));have e2:=abC b 0 (by omega) i aa (fun k _ a4=>q9 k (by omega));rw[dG] at e1 e2;exact aaM i aa (by rw[e2,<- e1];exact sE)
 obtain⟨kh,ME,amE⟩:=amD;have cK:(t a).T i N=0:=by rw[const a (by omega) i aa,<- const kh (by omega) i aa,<- amE];exact zero kh ME
 rcases hmul with ⟨h1,h2⟩|⟨h1,h2⟩
 ·have anE:j≠s b:=fun e=>by
   have:i=r a:=M5.inj aa zJ.ak (by rw[sE,a0,e]);have ai:=zJ.pos;rw[<- this] at ai;grind
  exact Ca.least j (by omega) anD h2
 have anE:j≠s b:=fun e=>by rw[e] at h2;exact jD.not_neg Ca.gs h2
 have mC:0<(t a).T i (s a):=by grind
 have:=zJ.tie i aa mC (by rw[cK,zero a bH];grind);rw[a0,sE] at this;omega
end
theorem PV : ∀(M p:Nat) (f:Nat->Nat),(∀n,n<p->f n<M)->(∀a b,a<p->b<p->f a=f b->a=b)->p<=M
 | 0,p,f,h,_=>by
  cases p with
  | zero=>exact dE _
  | succ p=>have:=h 0 (by omega);omega
 | M+1,p,f,h,aa=>by
  by_cases c : ∃n,n<p/\f n=M
  ·obtain⟨na,h0,e0⟩:=c
   have:=PV M (p-1) (fun n=>f (if n<na then n else n+1)) (fun n a2=>by
    have h1:=h (if n<na then n else n+1) (by split<;>omega);have h2:f (if n<na then n else n+1)≠M:=fun e=>(by have:=aa _ _ (by split<;>omega) h0 (e.trans e0.symm);split at this<;>omega);omega) (fun a b bH aO e=>by
    have:=aa _ _ (by split<;>omega) (by split<;>omega) e;split at this<;>split at this<;>omega)
   omega
  have:=PV M p f (fun n a2=>by have h1:=h n a2;have h2:f n≠M:=fun e=>c ⟨n,a2,e⟩;omega) aa;omega
def code (N:Nat)(B:Nat->Nat):Nat->Nat
 | 0=>0
 | m+1=>code N B m+B m*N ^ m
theorem Lr {N:Nat}{B:Nat->Nat}: ∀ {m:Nat},(∀i,i<m->B i<N)->code N B m<N ^ m
 | 0,_=>by simp[code]
 | m+1,h=>by have h1:=Lr (m:=m) fun i aa=>h i (by omega);have h2:=h m (by omega);have R:(B m+1)*N ^ m<=N*N ^ m:=arn _ h2;rw[Nat.add_mul] at R;rw[code,Nat.pow_succ,Nat.mul_comm (N ^ m) N];omega
theorem X0 {N:Nat}{B vg:Nat->Nat}: ∀ {m:Nat},(∀i,i<m->B i<N)->(∀i,i<m->vg i<N)->code N B m=code N vg m-> ∀i,i<m->B i=vg i
 | 0,_,_,_,i,aa=>by omega
 | m+1,h,dc,e,i,aa=>by
  have h1:=Lr (m:=m) fun i aa=>h i (by omega);have h2:=Lr (m:=m) fun i aa=>dc i (by omega);rw[code,code] at e;have mC:0<N ^ m:=(by omega);have e1:B m=vg m:=(by have fw:(code N B m+B m*N ^ m) / N ^ m=B m:=(by rw[Nat.add_mul_div_right _ _ mC,Nat.div_eq_of_lt h1];omega);have fo:(code N vg m+vg m*N ^ m) / N ^ m=vg m:=(by rw[Nat.add_mul_div_right _ _ mC,Nat.div_eq_of_lt h2];omega);rw[<- fw,<- fo,e]);rw[e1] at e;by_cases c:i=m
  ·rw[c];exact e1
  exact X0 (m:=m) (fun i aa=>h i (by omega)) (fun i aa=>dc i (by omega)) (by omega) i (by omega)
section
variable {ft m N K:Nat} {A obj:Nat->Nat->Rat} {bN:Nat->Prop}
structure IG (m N K:Nat) (obj:Nat->Nat->Rat) (bN:Nat->Prop) (t:Nat->b8) (r s:Nat->Nat) (p:Nat):Prop where
 du : ∀n,n<p->qy m N K obj bN (t n) (r n) (s n)
 rq : ∀n,n<p->t (n+1)=(t n).cA (r n) (s n)
theorem IG.ok {t:Nat->b8}{r s:Nat->Nat}{p:Nat}(h:IG m N K obj bN t r s p)(h0:hZ ft m N A (t 0))(f0:(t 0).nW m N): ∀n,n<=p->hZ ft m N A (t n)/\(t n).nW m N:=by
 intro n
 induction n with
 | zero=>intro _;exact⟨h0,f0⟩
 | succ n ih =>
  intro a2;obtain⟨a,b⟩:=ih (by omega);rw[h.rq n (by omega)];exact⟨(h.du n (by omega)).ok a,(h.du n (by omega)).IF b⟩
theorem IG.short {t:Nat->b8}{r s:Nat->Nat}{p:Nat}(h:IG m N K obj bN t r s p)(h0:hZ ft m N A (t 0))(f0:(t 0).nW m N):p+1<=N ^ m:=by
 have ok:=h.ok h0 f0;refine PV (N ^ m) (p+1) (fun n=>code N (t n).B m) (fun n a2=>Lr (ok n (by omega)).1.kA) fun a b bH aO e=> ?_
 have key : ∀a b,a<b->b<=p->code N (t a).B m=code N (t b).B m->False:=fun a b zt aO e=>by
  have gx:=X0 (ok a (by omega)).1.kA (ok b aO).1.kA e
  exact ajL (t:=fun n=>t (a+n)) (r:=fun n=>r (a+n)) (s:=fun n=>s (a+n)) (p:=b-a) (by omega) (ok a (by omega)).1 (ok a (by omega)).2
   (fun n a2=>h.du (a+n) (by omega)) (fun n a2=>h.rq (a+n) (by omega)) (fun i aa=>by show (t (a+(b-a))).B i=(t a).B i;rw[show a+(b-a)=b by omega];exact(gx i aa).symm)
 rcases Nat.lt_trichotomy a b with c|c|c
 ·exact(key a b c (by omega) e).elim
 ·exact c
 exact(key b a c (by omega) e.symm).elim
theorem WX {ka ab4:Type}{f:ka->Option (ka⊕ab4)}(a7:ka->b8->Prop)(E:ka->ab4->b8->Prop)
 (step : ∀a t,a7 a t->hZ ft m N A t->t.nW m N->(∃x,f a=some (.inr x)/\E a x t)\/ ∃eK r s,f a=some (.inl eK)/\qy m N K obj bN t r s/\a7 eK (t.cA r s))
 {a:ka} {t:b8} (ee:a7 a t) (h0:hZ ft m N A t) (f0:t.nW m N) : ∃x eK cW,iter f a=some x/\a7 eK cW/\hZ ft m N A cW/\cW.nW m N/\E eK x cW:=by
 have key : ∀k p (T:Nat->b8) (r s:Nat->Nat),N ^ m<=p+k->IG m N K obj bN T r s p->hZ ft m N A (T 0)->(T 0).nW m N-> ∀a,a7 a (T p)-> ∃x eK cW,iter f a=some x/\a7 eK cW/\hZ ft m N A cW/\cW.nW m N/\E eK x cW:=by
  intro k
  induction k with
  | zero =>
   intro p T r s a4 h h0 f0 a ee;have:=h.short h0 f0;omega
  | succ k ih =>
   intro p T r s a4 h h0 f0 a ee;obtain⟨ok,mI⟩:=h.ok h0 f0 p (dE _);rcases step a (T p) ee ok mI with ⟨x,U,he⟩|⟨eK,fN,cg,cp,aO,anF⟩
   ·exact⟨x,a,T p,by rw[iter,U];rfl,ee,ok,mI,he⟩
   obtain⟨x,fo,t2,e1,e2⟩:=ih (p+1) (fun n=>if n<=p then T n else (T p).cA fN cg) (fun n=>if n<p then r n else fN) (fun n=>if n<p then s n else cg) (by omega)
    ⟨fun n a2=>by
     by_cases c:n<p
     ·rw[dz (by omega),dz c,dz c];exact h.du n c
     ·rw[dz (by omega),dB c,dB c,show n=p by omega];exact aO,
     fun n a2=>by
      by_cases c:n<p
      ·rw[dz (by omega),dz (by omega),dz c,dz c];exact h.rq n c
      rw[dB (by omega),dz (by omega),dB c,dB c,show n=p by omega]⟩ (by simpa using h0) (by simpa using f0) eK (by rw[dB (by omega)];exact anF)
   exact⟨x,fo,t2,by rw[iter,cp];exact e1,e2⟩
 exact key (N ^ m) 0 (fun _=>t) (fun _=>0) (fun _=>0) (by omega) ⟨fun n a2=>by omega,fun n a2=>by omega⟩ h0 f0 a ee
theorem hZ.value {t:b8}(h:hZ ft m N A t)(o:Nat->Rat){z:Nat->Rat}(cK:∀c,c<ft->cH N (fun j=>A c j*z j)=A c N):
 cH N (fun j=>o j*z j)=cH m (fun i=>o (t.B i)*t.T i N)+cH N (fun j=>z j*t.cF m o j):=by
 obtain⟨W,hW⟩:=h.row;have ak : ∀i,i<m->cH N (fun j=>t.T i j*z j)=t.T i N:=fun i aa=>by rw[gT (g:=fun j=>cH ft (fun c=>W i c*(A c j*z j))) (fun j ap=>by rw[hW i aa j (by omega),<- xm];exact gT fun c _=>by grind),sV,hW i aa N (dE _)];exact gT fun c a1=>by rw[kQ,cK c a1]
 unfold b8.cF;rw[gT (f:=fun j=>z j*(o j-cH m fun i=>o (t.B i)*t.T i j)) (g:=fun j=>o j*z j-cH m (fun i=>o (t.B i)*(t.T i j*z j))) (fun j _=>by rw[gT (f:=fun i=>o (t.B i)*(t.T i j*z j)) (g:=fun i=>z j*(o (t.B i)*t.T i j)) (fun i _=>by grind),kQ];grind),vu,sV];rw[gT (f:=fun i=>cH N fun j=>o (t.B i)*(t.T i j*z j)) (g:=fun i=>o (t.B i)*t.T i N) fun i aa=>by rw[kQ,ak i aa]];grind
def b8.ia (m N:Nat)(t:b8)(j:Nat):Rat:=cH m (fun i=>if t.B i=j then t.T i N else 0)
theorem hZ.HM {t:b8}(h:hZ ft m N A t)(f:Nat->Rat):cH N (fun j=>f j*t.ia m N j)=cH m (fun i=>f (t.B i)*t.T i N):=by unfold b8.ia;rw[gT (g:=fun j=>cH m (fun i=>if t.B i=j then f (t.B i)*t.T i N else 0)) (fun j _=>by rw[<- kQ];exact gT fun i _=>by split<;>grind),sV];exact gT fun i aa=>by rw[mx (h.kA i aa) (f:=fun j=>if t.B i=j then f (t.B i)*t.T i N else 0) (fun j _ dX=>dB fun x=>dX x.symm),dz rfl]
theorem hZ.alp {t:b8}(h:hZ ft m N A t): ∀c,c<ft->cH N (fun j=>A c j*t.ia m N j)=A c N:=fun c a1=>by rw[h.HM,<- h.u7 c a1 N (dE _)]
theorem b8.nW.ia {t:b8}(h:t.nW m N)(j:Nat):0<=t.ia m N j:=xg fun i aa=>by split;exact h i aa;exact Rat.le_refl
theorem b8.OD {t:b8}{j:Nat}(h:∀i,i<m->t.B i≠j):t.ia m N j=0:=pC fun i aa=>dB (h i aa)
end
def skip {α:Type}(i:Nat)(f:Nat->α)(k:Nat):α:=f (if k<i then k else k+1)
def iq {α:Type}(M:Nat->α)(k:Nat)(v:α)(i:Nat):α:=if i=k then v else M i
def vS (n:Nat):Rat:=if n % 2=0 then 1 else -1
theorem ajM (n:Nat):vS (n+1) = - vS n:=by
 unfold vS;by_cases h:n % 2=0
 ·rw[dz h,dB (by omega)]
 rw[dB h,dz (by omega)];grind
def kB:Nat->(Nat->Nat->Rat)->Rat
 | 0,_=>1
 | n+1,M=>cH (n+1) (fun i=>vS (i+n)*M i n*kB n (skip i M))
theorem K1 : ∀ {n:Nat} {M F0:Nat->Nat->Rat},(∀i,i<n-> ∀c,c<n->M i c=F0 i c)->kB n M=kB n F0
 | 0,_,_,_=>rfl
 | n+1,M,F0,h=>by rw[kB,kB];exact gT fun i aa=>by rw[h i aa n (by omega),K1 (M:=skip i M) (F0:=skip i F0) fun k a4 c a1=> ?_];simp only[skip];exact h _ (by split<;>omega) c (by omega)
theorem Oz {α:Type}(M:Nat->α)(k:Nat)(v:α):skip k (iq M k v)=skip k M:=by funext i;simp only[skip,iq];rw[dB];split<;>omega
theorem OM {α:Type}(M:Nat->α){i k:Nat}(v:α)(h:k<i):skip i (iq M k v)=iq (skip i M) k v:=by
 funext j;simp only[skip,iq];by_cases c:j=k
 ·subst c;rw[dz h,dz rfl]
 rw[dB c,dB];split<;>omega
theorem ON {α:Type}(M:Nat->α){i k:Nat}(v:α)(h:i<k):skip i (iq M k v)=iq (skip i M) (k-1) v:=by
 funext j;simp only[skip,iq];by_cases c:j=k-1
 ·rw[dz c,dz (by split<;>omega)]
 rw[dB c,dB];split<;>omega
theorem ET : ∀ {n k:Nat} (M:Nat->Nat->Rat) (a b:Rat) (u v:Nat->Rat),k<n ->
 kB n (iq M k (fun c=>a*u c+b*v c))=a*kB n (iq M k u)+b*kB n (iq M k v)
 | 0,k,_,_,_,_,_,h=>by omega
 | n+1,k,M,a,b,u,v,a4=>by
  rw[kB,kB,kB,<- kQ,<- kQ,<- AA];refine gT fun i aa=> ?_;rcases Nat.lt_trichotomy i k with c|c|c
  ·rw[ON _ _ c,ON _ _ c,ON _ _ c,ET (skip i M) a b u v (by omega)];simp only[iq,dB (Nat.ne_of_lt c)];grind
  ·subst c;rw[Oz,Oz,Oz];simp only[iq,if_true];grind
  rw[OM _ _ c,OM _ _ c,OM _ _ c,ET (skip i M) a b u v (by omega)];simp only[iq,dB (Nat.ne_of_gt c)];grind
theorem O3 {α:Type}(M:Nat->α)(k:Nat):iq M k (M k)=M:=by
 funext i;simp only[iq];split
 ·rename_i e;rw[e]
 rfl
theorem YE {n k:Nat}(a4:k<n)(M:Nat->Nat->Rat)(x:Nat->Rat)(V:Nat->Nat->Rat): ∀m,kB n (iq M k (fun c=>cH m (fun i=>x i*V i c)))=cH m (fun i=>x i*kB n (iq M k (V i)))
 | 0=>by have:=ET M 0 0 (fun _=>0) (fun _=>0) a4;simp only[cH];rw[show (fun c=>(0:Rat))=(fun c:Nat=>0*(0:Rat)+0*0) from by funext c;grind,this];grind
 | m+1=>by have h1:=ET M 1 (x m) (fun c=>cH m (fun i=>x i*V i c)) (V m) a4;simp only[cH];rw[show (fun c=>(cH m fun i=>x i*V i c)+x m*V m c)=(fun c=>1*(cH m fun i=>x i*V i c)+x m*V m c) from by funext c;grind,h1,YE a4 M x V m];grind
theorem Ls : ∀ {n k:Nat} (M:Nat->Nat->Rat),k+1<n->M k=M (k+1)->kB n M=0
 | 0,k,_,h,_=>by omega
 | n+1,k,M,h,e=>by
  rw[kB]
  have bS:skip k M=skip (k+1) M:=by
   funext i;simp only[skip];by_cases c:i=k
   ·subst c;rw[dB (by omega),dz (by omega)];exact e.symm
   congr 1;split<;>split<;>omega
  have h0 : ∀i,i<n+1->i≠k->i≠k+1->vS (i+n)*M i n*kB n (skip i M)=0:=by
   intro i aa h1 h2
   have:kB n (skip i M)=0:=by
    by_cases c:i<k
    ·exact Ls (k:=k-1) _ (by omega) (by simp only[skip];rw[dB (by omega),dB (by omega),show k-1+1=k by omega];exact e)
    exact Ls (k:=k) _ (by omega) (by simp only[skip];rw[dz (by omega),dz (by omega)];exact e)
   rw[this];grind
  have e2 : ∀i,i<n+1->vS (i+n)*M i n*kB n (skip i M)=(if i=k then vS (k+n)*M k n*kB n (skip k M) else 0)+(if i=k+1 then vS (k+1+n)*M (k+1) n*kB n (skip (k+1) M) else 0):=by
   intro i aa;by_cases a6:i=k
   ·rw[dz a6,dB (by omega),a6];grind
   by_cases cw:i=k+1
   ·rw[dB a6,dz cw,cw];grind
   rw[dB a6,dB cw,h0 i aa a6 cw];grind
  rw[gT e2,AA,mx (k:=k) (by omega) (fun i _ dX=>dB dX),mx (k:=k+1) (by omega) (fun i _ dX=>dB dX),dz rfl,dz rfl,<- bS,<- e,show k+1+n=k+n+1 by omega,ajM];grind
def Ih {α:Type}(M:Nat->α)(k i:Nat):α:=if i=k then M (k+1) else if i=k+1 then M k else M i
theorem ajN {n k:Nat}(M:Nat->Nat->Rat)(h:k+1<n):kB n (Ih M k) = - kB n M:=by
 have two : ∀u v:Nat->Rat,kB n (iq (iq M k u) (k+1) v) = - kB n (iq (iq M k v) (k+1) u):=by
  intro u v;have h0 : ∀w:Nat->Rat,kB n (iq (iq M k w) (k+1) w)=0:=fun w=>Ls (k:=k) _ h (by funext c;simp[iq])
  have comm : ∀u v:Nat->Rat,iq (iq M k u) (k+1) v=iq (iq M (k+1) v) k u:=by
   intro u v;funext i;simp only[iq];by_cases a6:i=k
   ·subst a6;simp
   simp[a6]
  have lo : ∀w u v:Nat->Rat,kB n (iq (iq M k w) (k+1) (fun c=>1*u c+1*v c))=1*kB n (iq (iq M k w) (k+1) u)+1*kB n (iq (iq M k w) (k+1) v):=fun w u v=>ET (iq M k w) 1 1 u v h;have lQ : ∀w u v:Nat->Rat,kB n (iq (iq M k (fun c=>1*u c+1*v c)) (k+1) w)=1*kB n (iq (iq M k u) (k+1) w)+1*kB n (iq (iq M k v) (k+1) w):=fun w u v=>(by rw[comm,comm,comm];exact ET (iq M (k+1) w) 1 1 u v (by omega));have:=h0 (fun c=>1*u c+1*v c);rw[lo,lQ,lQ,h0,h0] at this;grind
 have e1:Ih M k=iq (iq M k (M (k+1))) (k+1) (M k):=by
  funext i;simp only[Ih,iq];by_cases a6:i=k
  ·subst a6;simp
  simp[a6]
 have e2:iq (iq M k (M k)) (k+1) (M (k+1))=M:=by rw[O3,O3]
 rw[e1,two,e2]
theorem PW : ∀(d:Nat) {n a:Nat} (M:Nat->Nat->Rat),a+d+1<n->M a=M (a+d+1)->kB n M=0
 | 0,n,a,M,h,e=>Ls M h e
 | d+1,n,a,M,h,e=>by have h1:=PW d (n:=n) (a:=a) (Ih M (a+d+1)) (by omega) (by simp only[Ih];rw[dB (by omega),dB (by omega)];rw[dz trivial];exact e);rw[ajN M (by omega)] at h1;grind
theorem akD {n a b:Nat}(M:Nat->Nat->Rat)(bH:a<n)(aO:b<n)(zt:a≠b)(e:M a=M b):kB n M=0:=by
 rcases Nat.lt_or_gt_of_ne zt with c|c
 ·exact PW (b-a-1) M (a:=a) (by omega) (by rw[show a+(b-a-1)+1=b by omega];exact e)
 exact PW (a-b-1) M (a:=b) (by omega) (by rw[show b+(a-b-1)+1=a by omega];exact e.symm)
def ei (K:Nat)(x:Rat):Prop:= ∃z:Int,x=z/\z.natAbs<=K
theorem ei.mono {K vh:Nat}{x:Rat}(h:ei K x)(a4:K<=vh):ei vh x:=by obtain⟨z,e,h⟩:=h;exact⟨z,e,Nat.le_trans h a4⟩
theorem ei.add {K vh:Nat}{x y:Rat}(h:ei K x)(dc:ei vh y):ei (K+vh) (x+y):=by obtain⟨a,rfl,bH⟩:=h;obtain⟨b,rfl,aO⟩:=dc;exact⟨a+b,by rw[Rat.intCast_add],by omega⟩
theorem ei.neg {K:Nat}{x:Rat}(h:ei K x):ei K (-x):=by obtain⟨a,rfl,bH⟩:=h;exact⟨-a,by rw[Rat.intCast_neg],by omega⟩
theorem ei.sub {K vh:Nat}{x y:Rat}(h:ei K x)(dc:ei vh y):ei (K+vh) (x-y):=by have:=h.add dc.neg;rw[show x + -y=x-y by grind] at this;exact this
theorem ei.mul {K vh:Nat}{x y:Rat}(h:ei K x)(dc:ei vh y):ei (K*vh) (x*y):=by obtain⟨a,rfl,bH⟩:=h;obtain⟨b,rfl,aO⟩:=dc;exact⟨a*b,by rw[arG],by rw[Int.natAbs_mul];exact Nat.mul_le_mul bH aO⟩
theorem ei.sum {K:Nat}{f:Nat->Rat}: ∀ {n:Nat},(∀i,i<n->ei K (f i))->ei (n*K) (cH n f)
 | 0,_=>⟨0,rfl,by simp⟩
 | n+1,h=>by have:=(ei.sum (n:=n) fun i aa=>h i (by omega)).add (h n (by omega));rw[<- Nat.succ_mul] at this;exact this
theorem alq (n:Nat):ei 1 (vS n):=by
 unfold vS;split
 ·exact⟨1,rfl,by omega⟩
 exact⟨-1,rfl,by omega⟩
def ov (K:Nat):Nat->Nat
 | 0=>1
 | n+1=>(n+1)*(K*ov K n)
theorem yU {K:Nat}: ∀ {n:Nat} {M:Nat->Nat->Rat},(∀i,i<n-> ∀c,c<n->ei K (M i c))->ei (ov K n) (kB n M)
 | 0,_,_=>⟨1,rfl,by simp[ov]⟩
 | n+1,M,h=>ei.sum fun i aa=>by have:=((alq (i+n)).mul (h i aa n (by omega))).mul (yU (n:=n) (M:=skip i M) fun k a4 c a1=>h _ (by split<;>omega) c (by omega));rw[Nat.one_mul] at this;exact this
theorem AN {K:Nat}(jI:0<K): ∀ {n k:Nat},n<=k->ov K n<=ov K k
 | n,0,h=>by rw[show n=0 by omega];exact dE _
 | n,k+1,h=>by
  by_cases c:n=k+1
  ·rw[c];exact dE _
  refine Nat.le_trans (AN jI (k:=k) (by omega)) ?_;rw[ov];have:1*ov K k<=K*ov K k:=arn _ jI;have h2:1*(K*ov K k)<=(k+1)*(K*ov K k):=arn _ (by omega);omega
section
variable {m N:Nat} {A:Nat->Nat->Rat} {t:b8}
def b8.D (m:Nat)(A:Nat->Nat->Rat)(t:b8):Rat:=kB m (fun i c=>A c (t.B i))
def b8.zL (m:Nat)(A:Nat->Nat->Rat)(t:b8)(i j:Nat):Rat:=kB m (iq (fun i c=>A c (t.B i)) i (fun c=>A c j))
theorem hZ.zL (h:hZ m m N A t){i j:Nat}(aa:i<m)(ap:j<=N):t.zL m A i j=t.T i j*t.D m A:=by
 have e:t.zL m A i j=kB m (iq (fun i c=>A c (t.B i)) i (fun c=>cH m (fun k=>t.T k j*(fun i c=>A c (t.B i)) k c))):=by
  refine K1 fun k a4 c a1=> ?_;simp only[iq];split
  ·show A c j=_;rw[h.u7 c a1 j ap];exact gT fun k _=>Rat.mul_comm _ _
  rfl
 rw[e,YE aa,mx aa fun k a4 dX=>by rw[akD _ aa a4 (fun x=>dX x.symm) (by simp only[iq,if_true];rw[dB dX])];grind];rw[O3 (fun i c=>A c (t.B i)) i];rfl
theorem hZ.Bg (h:hZ m m N A t){r k:Nat}(ak:r<m)(a4:k<N):(t.cA r k).D m A=t.T r k*t.D m A:=by rw[<- h.zL ak (by omega:k<=N)];refine K1 fun i aa c a1=> ?_;simp only[b8.cA,iq];split<;>rfl
end
def aC {α:Type}(n:Nat)(f:Nat->α):List α:=(List.range n).map f
theorem c2 {α:Type}(n:Nat)(f:Nat->α):(aC n f).length=n:=by simp[aC]
theorem ho {α:Type}{n:Nat}{f:Nat->α}{i:Nat}(h:i<n):(aC n f)[i]? = some (f i):=by simp[aC,h]
theorem ie {α:Type}{n:Nat}{f:Nat->α}{i:Nat}(h:i<n):(aC n f)[0+i]? = some (f i):=by rw[dG];exact ho h
theorem eW {α:Type}{n:Nat}{f g:Nat->α}(h:∀i,i<n->f i=g i):aC n f=aC n g :=
 arE fun i aa=>h i (List.mem_range.1 aa)
theorem ld {α:Type}(n:Nat)(f:Nat->α)(i:Nat)(v:α):(aC n f).set i v=aC n (fun k=>if k=i then v else f k):=by
 apply arw;intro k;rw[art];simp only[aC,arC,List.length_range,dK];by_cases h:i=k
 ·subst h
  by_cases c:i<n
  ·simp[c]
  simp[c]
 rw[dB h];by_cases c:k<n
 ·simp[c,Ne.symm h]
 simp[c]
theorem PF {α:Type}{n:Nat}{f:Nat->α}{x:α}:x∈aC n f↔ ∃i,i<n/\f i=x:=by simp[aC]
theorem YF {α β:Type}(n:Nat)(f:Nat->α)(g:α->β):(aC n f).map g=aC n (fun i=>g (f i)):=by simp[aC]
theorem lW {α:Type}(n:Nat)(f:Nat->α):aC (n+1) f=aC n f++[f n]:=by simp[aC,List.range_succ]
theorem xR {n:Nat}(h:n<1000000):J ((n:Int)+1)=((n+1:Nat):Int):=by rw[iw (by omega) (by omega)];omega
theorem c8 {α:Type}{p:Prop}[Decidable p] {x r:Option α} (k:x=r) (h:p:=by first|omega|(simp only;omega)|(rw[c2];omega)|(rw[c2,dw];omega)|(rw[c2];simp only;omega)|(simp only;rw[c2];omega)):(if p then x else none)=r:=cE h k
theorem fb {α:Type}{p:Prop}[Decidable p] {x y r:α} (k:x=r) (h:p:=by first|omega|(simp only;omega)):(if decide p=true then x else y)=r:=lT h k
theorem fp {α:Type}{p:Prop}[Decidable p] {x y r:α} (k:y=r) (h : ¬p:=by first|omega|(simp only;omega)|(simp;done)):(if decide p=true then x else y)=r:=la h k
def mu (x:Int):Int:=if x<0 then -1 else 1
def mZ (m n:Nat)(a:Nat->Nat->Int)(b:Nat->Int)(i j:Nat):Int :=
 if j<n then mu (b i)*a i j else if j=n+m then mu (b i)*b i else if j=n+i then 1 else 0
def eb (m n:Nat)(a:Nat->Nat->Int)(b:Nat->Int)(i j:Nat):Rat:=(mZ m n a b i j:Rat)
def kL (m n:Nat)(a:Nat->Nat->Int)(b:Nat->Int):b8:=⟨eb m n a b,fun i=>n+i⟩
def hk (m n j:Nat):Rat:=if n<=j/\j<n+m then -1 else 0
def sy (m n:Nat)(a:Nat->Nat->Int)(b:Nat->Int):Prop:= ∃x:Nat->Rat,(∀j,j<n->0<=x j)/\ ∀i,i<m->cH n (fun j=>(a i j:Rat)*x j)=(b i:Rat)
section
variable {m n:Nat} {a:Nat->Nat->Int} {b:Nat->Int}
theorem Zl (x:Int):((mu x:Int):Rat)≠0:=by unfold mu;split<;>simp<;>decide
theorem akE (x:Int):0<=mu x*x:=by unfold mu;split<;>omega
theorem xx {i k:Nat}(a4:k<m):eb m n a b i (n+k)=if k=i then 1 else 0:=by
 unfold eb mZ;rw[dB (by omega),dB (by omega)];by_cases c:k=i
 ·rw[dz c,dz (by omega)];rfl
 rw[dB c,dB (by omega)];rfl
theorem PX {i j:Nat}(ap:j<n):eb m n a b i j=((mu (b i):Int):Rat)*(a i j:Rat):=by unfold eb mZ;rw[dz ap,arG]
theorem LN {i:Nat}:eb m n a b i (n+m)=((mu (b i):Int):Rat)*(b i:Rat):=by unfold eb mZ;rw[dB (by omega),dz rfl,arG]
theorem alr {i:Nat}:0<=eb m n a b i (n+m):=by unfold eb mZ;rw[dB (by omega),dz rfl];have:=akE (b i);exact Rat.intCast_nonneg.2 this
theorem YG:hZ m m (n+m) (eb m n a b) (kL m n a b) where
 u7:=fun c a1 j _=>by rw[mx a1 (f:=fun i=>eb m n a b c ((kL m n a b).B i)*(kL m n a b).T i j) (fun i aa dX=>by show eb m n a b c (n+i)*_=0;rw[xx aa,dB dX];grind)];show _=eb m n a b c (n+c)*eb m n a b c j;rw[xx a1,dz rfl];grind
 row:=⟨fun i c=>if i=c then 1 else 0,fun i aa j _=>by rw[mx aa (f:=fun c=>(if i=c then (1:Rat) else 0)*eb m n a b c j) (fun c _ dX=>by rw[dB (Ne.symm dX)];grind),dz rfl];show eb m n a b i j=_;grind⟩
 unit:=fun i _ k a4=>by
  show eb m n a b i (n+k)=_;rw[xx a4];by_cases c:k=i
  ·rw[dz c,dz c.symm]
  rw[dB c,dB (Ne.symm c)]
 kA:=fun i aa=>by show n+i<n+m;omega
theorem Xs:(kL m n a b).nW m (n+m):=fun i aa=>alr
theorem aiw (j:Nat):(kL m n a b).cF m (hk m n) j=hk m n j+cH m (fun i=>eb m n a b i j):=by unfold b8.cF;rw[gT (g:=fun i=>(-1)*eb m n a b i j) (fun i aa=>by show hk m n (n+i)*eb m n a b i j=_;unfold hk;rw[dz (by omega)]),kQ];grind
theorem Zm:(kL m n a b).D m (eb m n a b)=1:=by
 have key : ∀k,k<=m->kB k (fun i c=>eb m n a b c (n+i))=1:=by
  intro k
  induction k with
  | zero=>intro _;rfl
  | succ k ih =>
   intro a4;rw[kB,mx (k:=k) (by omega) (fun i aa dX=>by rw[xx (by omega),dB dX];grind)];rw[xx (by omega),dz rfl,K1 (F0:=fun i c=>eb m n a b c (n+i)) (fun i aa c a1=>by simp only[skip];rw[dz aa]),ih (by omega)];unfold vS;rw[dz (by omega)];grind
 show kB m _=1;rw[show (fun i c=>eb m n a b c ((kL m n a b).B i))=fun i c=>eb m n a b c (n+i) from rfl,key m (dE _)]
theorem X1:(kL m n a b).D m (eb m n a b)≠0:=by rw[Zm];grind
variable {t:b8}
theorem KN (j:Nat):hk m n j<=0:=by unfold hk;split<;>grind
theorem agq (f:t.nW m (n+m)):0<=t.cF m (hk m n) (n+m):=by
 unfold b8.cF;have h1:hk m n (n+m)=0:=by unfold hk;rw[dB (by omega)]
 have h2:0<=cH m (fun i=> -(hk m n (t.B i))*t.T i (n+m)):=xg fun i aa=>arH (by have:= @KN m n (t.B i);grind) (f i aa);rw[gT (g:=fun i=>(-1)*(hk m n (t.B i)*t.T i (n+m))) (fun i _=>by grind),kQ] at h2;grind
theorem Wu (ok:hZ m m (n+m) (eb m n a b) t)(f:t.nW m (n+m))(h:∀i,i<m->n<=t.B i->t.T i (n+m)=0):sy m n a b:=by
 refine⟨t.ia m (n+m),fun j _=>f.ia j,fun i aa=> ?_⟩;have bS:=ok.alp i aa;rw[OL,LN] at bS
 have cK:cH m (fun k=>eb m n a b i (n+k)*t.ia m (n+m) (n+k))=0:=pC fun k a4=>by
  have:t.ia m (n+m) (n+k)=0:=pC fun fU lj=>by
   split
   ·rename_i e;exact h fU lj (by omega)
   rfl
  rw[this];grind
 rw[cK,gT (g:=fun j=>((mu (b i):Int):Rat)*((a i j:Rat)*t.ia m (n+m) j)) (fun j ap=>by rw[PX ap];grind),kQ] at bS;have:=Zl (b i);grind
theorem OO (f:t.nW m (n+m))(h:t.cF m (hk m n) (n+m)=0)(aO:∀i,i<m->t.B i<n+m): ∀i,i<m->n<=t.B i->t.T i (n+m)=0:=by
 unfold b8.cF at h;have h1:hk m n (n+m)=0:=by unfold hk;rw[dB (by omega)]
 have h2:cH m (fun i=> -(hk m n (t.B i))*t.T i (n+m))=0:=by rw[gT (g:=fun i=>(-1)*(hk m n (t.B i)*t.T i (n+m))) (fun i _=>by grind),kQ];grind
 intro i aa a2;have R:=Oy (n:=m) (fun i aa=>arH (by have:= @KN m n (t.B i);grind) (f i aa)) h2 i aa;have aj:hk m n (t.B i) = -1:=by unfold hk;rw[dz ⟨a2,aO i aa⟩]
 rw[aj] at R;grind
theorem WY (ok:hZ m m (n+m) (eb m n a b) t)(f:t.nW m (n+m))(h:∀j,j<n->t.cF m (hk m n) j<=0)(bS:sy m n a b):t.cF m (hk m n) (n+m)=0:=by
 obtain⟨x,U,hA⟩:=bS;have cK : ∀c,c<m->cH (n+m) (fun j=>eb m n a b c j*(if j<n then x j else 0))=eb m n a b c (n+m):=fun c a1=>by rw[OL,pC (n:=m) (fun k a4=>by rw[dB (by omega)];grind),LN,<- hA c a1,<- kQ];rw[gT (g:=fun j=>((mu (b c):Int):Rat)*((a c j:Rat)*x j)) (fun j ap=>by rw[PX ap,dz ap];grind)];grind
 have bh:=ok.value (hk m n) cK
 rw[pC (n:=n+m) (f:=fun j=>hk m n j*(if j<n then x j else 0)) (fun j ap=>by
  by_cases c:j<n
  ·unfold hk;rw[dB (by omega)];grind
  rw[dB c];grind)] at bh
 have h1:cH (n+m) (fun j=>(if j<n then x j else 0)*t.cF m (hk m n) j)<=cH (n+m) (fun _=>(0:Rat)):=ajG fun j ap=>by
  by_cases c:j<n
  ·rw[dz c];have:=arH (U j c) (show 0<= -(t.cF m (hk m n) j) by have:=h j c;grind);grind
  rw[dB c];grind
 rw[pC (n:=n+m) (f:=fun _=>(0:Rat)) fun _ _=>rfl] at h1;have h2:=agq (m:=m) (n:=n) f;have R:t.cF m (hk m n) (n+m) = - cH m (fun i=>hk m n (t.B i)*t.T i (n+m)):=by unfold b8.cF;have:hk m n (n+m)=0:=(by unfold hk;rw[dB (by omega)]);rw[this];grind
 grind
theorem Wa (ok:hZ m m (n+m) (eb m n a b) t){s:Nat}(bS:s<n+m)(d6:0<t.cF m (hk m n) s): ∃i,i<m/\0<t.T i s:=by
 apply Classical.byContradiction;intro dX;have h1:cH m (fun i=>hk m n (t.B i)*t.T i s)>=0:=xg fun i aa=>by have h2 : ¬0<t.T i s:=fun c=>dX ⟨i,aa,c⟩;have:=arH (show 0<= -(hk m n (t.B i)) by have:= @KN m n (t.B i);grind) (show 0<= -(t.T i s) by grind);grind
 unfold b8.cF at d6;have:= @KN m n s;grind
end
def wU (m n:Nat)(a:Nat->Nat->Int)(b:Nat->Int)(x:Nat->Rat):Prop:=(∀j,j<n->0<=x j)/\ ∀i,i<m->cH n (fun j=>(a i j:Rat)*x j)=(b i:Rat)
def val (n:Nat)(o x:Nat->Rat):Rat:=cH n (fun j=>o j*x j)
def iO (c:Nat->Rat)(l j:Nat):Rat:=match l with
 | 0=>c j
 | l+1=>if j=l then -1 else 0
def wy (m n:Nat)(a:Nat->Nat->Int)(b:Nat->Int)(c x:Nat->Rat):Prop :=
 wU m n a b x/\ ∀y,wU m n a b y-> ¬jD (n+1) (fun l=>val n (iO c l) y-val n (iO c l) x)
def Bounded (m n:Nat)(a:Nat->Nat->Int)(b:Nat->Int)(c:Nat->Rat):Prop:= ∃V,∀y,wU m n a b y->val n c y<=V
section
variable {m n:Nat} {a:Nat->Nat->Int} {b:Nat->Int} {c:Nat->Rat}
theorem ajO {x:Nat->Rat}{j:Nat}(ap:j<n):val n (iO c (j+1)) x = - x j:=by unfold val;rw[mx ap (f:=fun i=>iO c (j+1) i*x i) (fun i aa dX=>by simp only[iO];rw[dB dX];grind)];simp only[iO,if_true];grind
theorem wy.unique {x y:Nat->Rat}(U:wy m n a b c x)(aY:wy m n a b c y):(∀j,j<n->x j=y j)/\val n c x=val n c y:=by
 rcases K0 (n+1) (fun l=>val n (iO c l) y-val n (iO c l) x) with h|h|h
 ·exact(U.2 y aY.1 h).elim
 ·refine⟨fun j ap=> ?_,?_⟩
  ·have:=h (j+1) (by omega);simp only[ajO ap] at this;grind
  have:=h 0 (by omega);simp only at this;have e:iO c 0=c:=rfl;rw[e] at this;grind
 exact(aY.2 x U.1 (h.congr fun l _=>by grind)).elim
theorem wy.Mf {x y:Nat->Rat}(U:wy m n a b c x)(aY:wU m n a b y):val n c y<=val n c x:=by apply Classical.byContradiction;intro h;refine U.2 y aY ⟨0,by omega,?_,fun l aZ=>by omega⟩;have e:iO c 0=c:=rfl;simp only[e];grind
structure LT (m n:Nat) (a:Nat->Nat->Int) (b:Nat->Int) (aF N:Nat) (u:b8):Prop where
 eqv : ∀x:Nat->Rat,(∀i,i<m->cH n (fun j=>(a i j:Rat)*x j)=(b i:Rat))↔ ∀i,i<aF->cH n (fun j=>u.T i j*x j)=u.T i N
 unit : ∀i,i<aF-> ∀k,k<aF->u.T i (u.B k)=if i=k then 1 else 0
 kA : ∀i,i<aF->u.B i<n
 mI:u.nW aF N
 RQ:n<=N
variable {aF N:Nat} {u:b8}
theorem LT.HM (h:LT m n a b aF N u)(f:Nat->Rat):cH n (fun j=>f j*u.ia aF N j)=cH aF (fun i=>f (u.B i)*u.T i N):=by unfold b8.ia;rw[gT (g:=fun j=>cH aF (fun i=>if u.B i=j then f (u.B i)*u.T i N else 0)) (fun j _=>by rw[<- kQ];exact gT fun i _=>by split<;>grind),sV];exact gT fun i aa=>by rw[mx (h.kA i aa) (f:=fun j=>if u.B i=j then f (u.B i)*u.T i N else 0) (fun j _ dX=>dB fun x=>dX x.symm),dz rfl]
theorem LT.ia (h:LT m n a b aF N u):wU m n a b (u.ia aF N):=by refine⟨fun j _=>h.mI.ia j,(h.eqv _).2 fun i aa=> ?_⟩;rw[h.HM,mx aa (f:=fun k=>u.T i (u.B k)*u.T k N) (fun k a4 dX=>by rw[h.unit i aa k a4,dB (fun e=>dX e.symm)];grind),h.unit i aa i aa,dz rfl];grind
theorem LT.Pp (h:LT m n a b aF N u)(o:Nat->Rat){x:Nat->Rat}(U:wU m n a b x):cH n (fun j=>u.cF aF o j*x j)=val n o x-val n o (u.ia aF N):=by have ak:=(h.eqv x).1 U.2;unfold val b8.cF;rw[h.HM o,gT (g:=fun j=>o j*x j-cH aF (fun i=>o (u.B i)*(u.T i j*x j))) (fun j _=>by rw[gT (f:=fun i=>o (u.B i)*(u.T i j*x j)) (g:=fun i=>x j*(o (u.B i)*u.T i j)) (fun i _=>by grind),kQ];grind),vu,sV];congr 1;exact gT fun i aa=>by rw[kQ,ak i aa]
theorem LT.Ax (h:LT m n a b aF N u)(o:Nat->Rat){i:Nat}(aa:i<aF):u.cF aF o (u.B i)=0:=by unfold b8.cF;rw[mx aa (f:=fun k=>o (u.B k)*u.T k (u.B i)) (fun k a4 dX=>by rw[h.unit k a4 i aa,dB dX];grind),h.unit i aa i aa,dz rfl];grind
theorem LT.m6 (h:LT m n a b aF N u)(d6:∀j,j<n-> ¬u.sP aF (n+1) (iO c) j):wy m n a b c (u.ia aF N):=by
 refine⟨h.ia,fun y aY aZ=> ?_⟩;have Jf:jD (n+1) (fun l=>cH n (fun j=>u.cF aF (iO c l) j*y j)):=aZ.congr fun l _=>(h.Pp (iO c l) aY).symm;obtain⟨j,ap,ai⟩:=jD.PU (v:=fun j l=>u.cF aF (iO c l) j*y j) Jf;rcases(ai.congr (hs:=fun l=>y j*u.cF aF (iO c l) j) fun l _=>Rat.mul_comm _ _).Zk with ⟨-,h2⟩|⟨h2,-⟩
 ·exact d6 j ap h2
 have:=aY.1 j ap;grind
theorem LT.MF (h:LT m n a b aF N u)(o:Nat->Rat){s:Nat}(bS:s<n)(d6:0<u.cF aF o s)(iz:∀i,i<aF-> ¬0<u.T i s): ¬Bounded m n a b o:=by
 rintro⟨V,hV⟩;have bI : ∀f:Nat->Rat,cH n (fun j=>f j*u.dir aF s j)=f s-cH aF (fun i=>f (u.B i)*u.T i s):=fun f=>by unfold b8.dir;rw[gT (g:=fun j=>(if j=s then f s else 0)-cH aF (fun i=>if u.B i=j then f (u.B i)*u.T i s else 0)) (fun j _=>by have e:cH aF (fun i=>if u.B i=j then f (u.B i)*u.T i s else 0)=f j*cH aF (fun i=>if u.B i=j then u.T i s else 0):=(by rw[<- kQ];exact gT fun i _=>by split<;>grind);rw[e];split<;>grind),vu,mx bS (f:=fun j=>if j=s then f s else 0) (fun i _ dX=>dB dX),dz rfl,sV];congr 1;exact gT fun i aa=>by rw[mx (h.kA i aa) (f:=fun j=>if u.B i=j then f (u.B i)*u.T i s else 0) (fun j _ dX=>dB fun x=>dX x.symm),dz rfl]
 have pos : ∀j,0<=u.dir aF s j:=fun j=>by unfold b8.dir;have h1:0<=cH aF (fun i=> -(if u.B i=j then u.T i s else 0)):=xg fun i aa=>(by have:=iz i aa;split<;>grind);rw[gT (g:=fun i=>(-1)*(if u.B i=j then u.T i s else 0)) (fun i _=>by grind),kQ] at h1;split<;>grind
 have MF : ∀Cl:Rat,0<=Cl->wU m n a b (fun j=>u.ia aF N j+Cl*u.dir aF s j)/\val n o (fun j=>u.ia aF N j+Cl*u.dir aF s j)=val n o (u.ia aF N)+Cl*u.cF aF o s:=fun Cl RP=>by
  have aaN : ∀f:Nat->Rat,cH n (fun j=>f j*(u.ia aF N j+Cl*u.dir aF s j))=cH n (fun j=>f j*u.ia aF N j)+Cl*(f s-cH aF (fun i=>f (u.B i)*u.T i s)):=fun f=>(by rw[<- bI f,<- kQ,<- AA];exact gT fun j _=>by grind);refine⟨⟨fun j _=> ?_,(h.eqv _).2 fun i aa=> ?_⟩,aaN o⟩
  ·have h1:=h.mI.ia (m:=aF) (N:=N) j;have h2:=arH RP (pos j);grind
  rw[aaN (u.T i),(h.eqv _).1 h.ia.2 i aa,mx aa (f:=fun k=>u.T i (u.B k)*u.T k s) (fun k a4 dX=>by rw[h.unit i aa k a4,dB (fun e=>dX e.symm)];grind),h.unit i aa i aa,dz rfl];grind
 have aaO:=hV _ h.ia;have dX:u.cF aF o s≠0:=by grind
 obtain⟨r1,r2⟩:=MF ((V-val n o (u.ia aF N)+1) / u.cF aF o s) (by rw[Rat.div_def];exact arH (by grind) (Rat.le_of_lt (Rat.inv_pos.2 d6)));have R:=hV _ r1;rw[r2] at R;have:(V-val n o (u.ia aF N)+1) / u.cF aF o s*u.cF aF o s=V-val n o (u.ia aF N)+1:=by grind
 grind
theorem LT.cA (h:LT m n a b aF N u){r k:Nat}(ak:r<aF)(a4:k<n)(ai:u.T r k≠0)(cp:(u.cA r k).nW aF N):LT m n a b aF N (u.cA r k) where
 eqv:=fun x=>by
  rw[h.eqv x];have e1:cH n (fun j=>(u.cA r k).T r j*x j)=(1 / u.T r k)*cH n (fun j=>u.T r j*x j):=(by rw[<- kQ];exact gT fun j _=>by simp only[b8.cA,if_true];grind);have e2 : ∀i,i≠r->cH n (fun j=>(u.cA r k).T i j*x j)=cH n (fun j=>u.T i j*x j)-(u.T i k / u.T r k)*cH n (fun j=>u.T r j*x j):=fun i aa=>(by rw[<- kQ,<- vu];exact gT fun j _=>by simp only[b8.cA,dB aa];grind);have n1:(u.cA r k).T r N=(1 / u.T r k)*u.T r N:=(by simp only[b8.cA,if_true];grind);have n2 : ∀i,i≠r->(u.cA r k).T i N=u.T i N-(u.T i k / u.T r k)*u.T r N:=fun i aa=>(by simp only[b8.cA,dB aa];grind);constructor
  ·intro U i aa
   by_cases c:i=r
   ·rw[c,e1,n1,U r ak]
   rw[e2 i c,n2 i c,U i aa,U r ak]
  intro U;have aaP:cH n (fun j=>u.T r j*x j)=u.T r N:=(by have:=U r ak;rw[e1,n1] at this;have h2:u.T r k*((1 / u.T r k)*cH n (fun j=>u.T r j*x j))=u.T r k*((1 / u.T r k)*u.T r N):=(by rw[this]);grind);intro i aa;by_cases c:i=r
  ·rw[c];exact aaP
  have:=U i aa;rw[e2 i c,n2 i c,aaP] at this;grind
 unit:=by
  intro i aa eh p6;simp only[b8.cA];by_cases e:i=r
  ·subst e
   simp only[if_true];by_cases fA:eh=i
   ·subst fA;simp only[if_true];grind
   simp only[dB fA];rw[h.unit i aa eh p6,dB (fun x=>fA x.symm)];grind
  simp only[dB e];by_cases fA:eh=r
  ·subst fA;simp only[if_true,dB e];grind
  simp only[dB fA];rw[h.unit i aa eh p6,h.unit r ak eh p6,dB (c:=r=eh) (fun x=>fA x.symm)];grind
 kA:=fun i aa=>by
  simp only[b8.cA];split
  ·exact a4
  exact h.kA i aa
 mI:=cp
 RQ:=h.RQ
theorem LT.tok (h:LT m n a b aF N u)(a2:n<=N)(fY:0<N):hZ aF aF N u.T u where
 u7:=fun c a1 j _=>by rw[mx a1 (f:=fun i=>u.T c (u.B i)*u.T i j) (fun i aa dX=>by rw[h.unit c a1 i aa,dB (fun e=>dX e.symm)];grind),h.unit c a1 c a1,dz rfl];grind
 row:=⟨fun i c=>if i=c then 1 else 0,fun i aa j _=>by rw[mx aa (f:=fun c=>(if i=c then (1:Rat) else 0)*u.T c j) (fun c _ dX=>by rw[dB (Ne.symm dX)];grind),dz rfl];grind⟩
 unit:=h.unit
 kA:=fun i aa=>Nat.lt_of_lt_of_le (h.kA i aa) a2
def ze (n:Nat)(ec:Nat->Bool)(x:Nat->Rat):Prop:= ∀j,j<n->ec j=false->x j=0
structure sF (m n:Nat) (a:Nat->Nat->Int) (b:Nat->Int) (c:Nat->Rat) (l:Nat) (ec:Nat->Bool) (V:Nat->Rat):Prop where
 low : ∀y,wU m n a b y->ze n ec y-> ∀k,k<l->val n (iO c k) y=V k
 up : ∀y,wU m n a b y-> ¬ze n ec y-> ∃k,k<l/\val n (iO c k) y<V k/\ ∀q,q<k->val n (iO c q) y=V q
theorem sF.zero {ec:Nat->Bool}(h:∀j,j<n->ec j=true)(V:Nat->Rat):sF m n a b c 0 ec V where
 low:=fun y _ _ k a4=>by omega
 up:=fun y _ cp=>(cp fun j ap e=>by rw[h j ap] at e;cases e).elim
theorem sF.next (h:LT m n a b aF N u){l:Nat}{ec nN:Nat->Bool}{V:Nat->Rat}(s:sF m n a b c l ec V)(d6:∀j,j<n->ec j=true-> ¬0<u.cF aF (iO c l) j)
 (ti : ∀j,j<n->nN j=(ec j && !decide (u.cF aF (iO c l) j<0))) : ∃JO,sF m n a b c (l+1) nN JO:=by
 have sub : ∀y,ze n nN y->ze n ec y:=fun y aY j ap e=>aY j ap (by rw[ti j ap,e];rfl)
 have neg : ∀y,wU m n a b y->ze n ec y-> ∀j,j<n->0<= -(u.cF aF (iO c l) j*y j):=fun y aY cp j ap=>by
  cases e:ec j with
  | false=>rw[cp j ap e];grind
  | true =>
   have:=arH (show 0<= -(u.cF aF (iO c l) j) by have:=d6 j ap e;grind) (aY.1 j ap);grind
 refine⟨fun k=>if k=l then val n (iO c l) (u.ia aF N) else V k,fun y aY cp k a4=> ?_,fun y aY cp=> ?_⟩
 ·by_cases e:k=l
  ·rw[dz e,e]
   have cK:cH n (fun j=>u.cF aF (iO c l) j*y j)=0:=pC fun j ap=>by
    cases e:nN j with
    | false=>rw[cp j ap e];grind
    | true =>
     rw[ti j ap,dO] at e;have h1:=d6 j ap e.1;have h2 : ¬u.cF aF (iO c l) j<0:=(by simpa using e.2);have:u.cF aF (iO c l) j=0:=(by grind);rw[this];grind
   rw[h.Pp _ aY] at cK;grind
  rw[dB e];exact s.low y aY (sub y cp) k (by omega)
 by_cases g:ze n ec y;rotate_left
 ·obtain⟨k,k0,kh,pB⟩:=s.up y aY g;exact⟨k,by omega,by rw[dB (by omega)];exact kh,fun q a0=>by rw[dB (by omega)];exact pB q a0⟩
 refine⟨l,by omega,?_,fun q a0=>by rw[dB (by omega)];exact s.low y aY g q a0⟩;rw[dz rfl];have h1:=h.Pp (iO c l) aY;have h2:=neg y aY g;have R:=xg h2
 have aj:cH n (fun j=> -(u.cF aF (iO c l) j*y j))≠0:=fun e=>cp fun j ap abE=>by
  have:=Oy h2 e j ap
  cases e1:ec j with
  | false=>exact g j ap e1
  | true =>
   rw[ti j ap,e1,Bool.true_and] at abE;have aq:u.cF aF (iO c l) j<0:=(by simpa using abE);grind
 rw[gT (g:=fun j=>(-1)*(u.cF aF (iO c l) j*y j)) (fun j _=>by grind),kQ,h1] at R aj;grind
theorem sF.m6 (h:LT m n a b aF N u){ec:Nat->Bool}{V:Nat->Rat}(s:sF m n a b c (n+1) ec V)(aO:∀i,i<aF->ec (u.B i)=true):wy m n a b c (u.ia aF N):=by
 have U:ze n ec (u.ia aF N):=fun j ap e=>b8.OD fun i aa e2=>by have:=aO i aa;rw[e2,e] at this;cases this
 have bh:=s.low _ h.ia U;refine⟨h.ia,fun y aY ⟨l,lo,lQ,zM⟩=> ?_⟩;by_cases g:ze n ec y
 ·have:=s.low y aY g l lo;have:=bh l lo;grind
 obtain⟨k,k0,kh,pB⟩:=s.up y aY g;rcases Nat.lt_trichotomy l k with e|e|e
 ·have:=pB l e;have:=bh l lo;grind
 ·subst e;have:=bh l lo;grind
 have:=zM k e;have:=bh k k0;grind
theorem LT.Xt (h:LT m n a b aF N u){k s:Nat}(d6:0<u.cF aF (iO c (k+1)) s): ∃i,i<aF/\0<u.T i s:=by
 apply Classical.byContradiction;intro dX;have h1:0<=cH aF (fun i=>iO c (k+1) (u.B i)*u.T i s):=xg fun i aa=>by have h2 : ¬0<u.T i s:=fun e=>dX ⟨i,aa,e⟩;simp only[iO];split<;>grind
 unfold b8.cF at d6;have R:iO c (k+1) s<=0:=by simp only[iO];split<;>grind
 grind
end
end Go.VL
namespace Go.Proofs.YthgbjflfgmahbafGreat
set_option linter.unusedVariables false
set_option linter.unusedSimpArgs false
open Go Go.VL
structure cN where
 jl:ByteArray
 f9:Int
 hc:Int
 iZ:Bool
 deriving DecidableEq
structure c6 where
 bR:Int
 bP:Int
 h5:Int
 deriving DecidableEq
structure cT where
 cq:(List cN)
 bE:(List c6)
 deriving DecidableEq
structure dp where
 bR:Int
 bP:Int
 bQ:Int
 cC:Int
 deriving DecidableEq
structure bK where
 cQ:Bool
 bZ:ar
 deriving DecidableEq
structure au where
 bQ:bK
 cC:ar
 deriving DecidableEq
structure kk where
 gC:Int
 fi:Int
 bR:ar
 bP:ar
 h3:ar
 deriving DecidableEq
structure yN where
 L4:Int
 f9:(List au)
 PY:au
 deriving DecidableEq
structure wt where
 RR:Int
 xJ:(List (List au))
 wz:ar
 Ii:(List au)
 deriving DecidableEq
structure fE where
 iv:Int
 tM:Int
 deriving DecidableEq
structure eL where
 uX:bK
 tc:ar
 deriving DecidableEq
structure xp where
 xJ:(List (List bK))
 BL:bK
 wz:ar
 Qe:Int
 Qf:(List Bool)
 deriving DecidableEq
def b9 (x:cN):List aA:=[.s x.jl,.n .i64 x.f9,.n .i64 x.hc,.b x.iZ]
theorem Ay : ∀x,∀v∈b9 x,v.kv=true:=by intro x v bh;simp only[b9,dR,arv,or_false] at bh;rcases bh with rfl|rfl|rfl|rfl<;>rfl
theorem Az : ∀x,∀v∈b9 x,bD v:=fun x=>(qs (.s _) (qs (.n _ _) (qs (.n _ _) (qs (.b _) ES))))
theorem nh : ∀x,∀v∈b9 x,Pure v:=by
 intro x v bh;simp only[b9,dR,arv,or_false] at bh;rcases bh with rfl|rfl|rfl|rfl
 ·exact .s _
 ·exact .n _ _
 ·exact .n _ _
 exact .b _
def ca (x:c6):List aA:=[.n .i64 x.bR,.n .i64 x.bP,.n .i64 x.h5]
theorem Ar : ∀x,∀v∈ca x,v.kv=true:=by intro x v bh;simp only[ca,dR,arv,or_false] at bh;rcases bh with rfl|rfl|rfl<;>rfl
theorem As : ∀x,∀v∈ca x,bD v:=fun x=>(qs (.n _ _) (qs (.n _ _) (qs (.n _ _) ES)))
theorem ng : ∀x,∀v∈ca x,Pure v:=by
 intro x v bh;simp only[ca,dR,arv,or_false] at bh;rcases bh with rfl|rfl|rfl
 ·exact .n _ _
 ·exact .n _ _
 exact .n _ _
def h4 (x:cT):List aA:=[.isl 4 (x.cq.map b9),.isl 3 (x.bE.map ca)]
theorem vl : ∀x,∀v∈h4 x,Pure v:=by
 intro x v bh;simp only[h4,dR,arv,or_false] at bh;rcases bh with rfl|rfl
 ·exact .isl (d8 nh _)
 exact .isl (d8 ng _)
def eTBlock (x:dp):List aA:=[.n .i64 x.bR,.n .i64 x.bP,.n .i64 x.bQ,.n .i64 x.cC]
theorem Ey : ∀x,∀v∈eTBlock x,bD v:=fun x=>(qs (.n _ _) (qs (.n _ _) (qs (.n _ _) (qs (.n _ _) ES))))
theorem ni : ∀x,∀v∈eTBlock x,Pure v:=by
 intro x v bh;simp only[eTBlock,dR,arv,or_false] at bh;rcases bh with rfl|rfl|rfl|rfl
 ·exact .n _ _
 ·exact .n _ _
 ·exact .n _ _
 exact .n _ _
def br (x:bK):List aA:=[.b x.cQ,.isl 1 (x.bZ.map eI)]
theorem fJ : ∀x,∀v∈br x,v.kv=true:=by intro x v bh;simp only[br,dR,arv,or_false] at bh;rcases bh with rfl|rfl<;>rfl
theorem xd : ∀x,∀v∈br x,Pure v:=by
 intro x v bh;simp only[br,dR,arv,or_false] at bh;rcases bh with rfl|rfl
 ·exact .b _
 exact .isl (d8 cy _)
def aG (x:au):List aA:=[.b x.bQ.cQ,.isl 1 (x.bQ.bZ.map eI),.isl 1 (x.cC.map eI)]
theorem jj : ∀x,∀v∈aG x,v.kv=true:=by intro x v bh;simp only[aG,dR,arv,or_false] at bh;rcases bh with rfl|rfl|rfl<;>rfl
theorem ew : ∀x,∀v∈aG x,Pure v:=by
 intro x v bh;simp only[aG,dR,arv,or_false] at bh;rcases bh with rfl|rfl|rfl
 ·exact .b _
 ·exact .isl (d8 cy _)
 exact .isl (d8 cy _)
def uD (x:kk):List aA:=[.n .i64 x.gC,.n .i64 x.fi,.isl 1 (x.bR.map eI),.isl 1 (x.bP.map eI),.isl 1 (x.h3.map eI)]
def EK (x:yN):List aA:=[.n .i64 x.L4,.isl 3 (x.f9.map aG),.b x.PY.bQ.cQ,.isl 1 (x.PY.bQ.bZ.map eI),.isl 1 (x.PY.cC.map eI)]
def AB (x:wt):List aA:=[.n .i64 x.RR,.isl 1 (x.xJ.map (fP 3 aG)),.isl 1 (x.wz.map eI),.isl 3 (x.Ii.map aG)]
theorem On : ∀x,∀v∈AB x,Pure v:=by
 intro x v bh;simp only[AB,dR,arv,or_false] at bh;rcases bh with rfl|rfl|rfl|rfl
 ·exact .n _ _
 ·exact .isl (d8 (qR (sz:=3) ew) _)
 ·exact .isl (d8 cy _)
 exact .isl (d8 ew _)
def fV (x:fE):List aA:=[.n .i64 x.iv,.n .i64 x.tM]
theorem Ah : ∀x,∀v∈fV x,Pure v:=by
 intro x v bh;simp only[fV,dR,arv,or_false] at bh;rcases bh with rfl|rfl
 ·exact .n _ _
 exact .n _ _
def cZ (x:eL):List aA:=[.b x.uX.cQ,.isl 1 (x.uX.bZ.map eI),.isl 1 (x.tc.map eI)]
theorem oT : ∀x,∀v∈cZ x,Pure v:=by
 intro x v bh;simp only[cZ,dR,arv,or_false] at bh;rcases bh with rfl|rfl|rfl
 ·exact .b _
 ·exact .isl (d8 cy _)
 exact .isl (d8 cy _)
def Ez (x:xp):List aA:=[.isl 1 (x.xJ.map (fP 2 br)),.b x.BL.cQ,.isl 1 (x.BL.bZ.map eI),.isl 1 (x.wz.map eI),.n .i64 x.Qe,.isl 1 (x.Qf.map gX)]
theorem N7 : ∀x,∀v∈Ez x,Pure v:=by
 intro x v bh;simp only[Ez,dR,arv,or_false] at bh;rcases bh with rfl|rfl|rfl|rfl|rfl|rfl
 ·exact .isl (d8 (qR (sz:=2) xd) _)
 ·exact .b _
 ·exact .isl (d8 cy _)
 ·exact .isl (d8 cy _)
 ·exact .n _ _
 exact .isl (d8 fF _)
structure hX where
 cQ:Bool
 bZ:bF
structure eH where
 bQ:hX
 cC:bF
def dq (dU c:Nat)(x:eH):List aA:=[.b x.bQ.cQ,jJ dU c 1 x.bQ.bZ,jJ dU c 1 x.cC]
theorem pD {b7:Nat->Option Nat}{dU oq c:Nat}(cv:b7 dU=some oq)(x:eH):(dq dU c x).map (p8 b7)=dq oq c x:=by simp only[dq,List.map_cons,List.map_nil,Qb cv];rfl
theorem O4 (dU c:Nat): ∀x,∀v∈dq dU c x,bD v:=fun x=>(qs (.b _) (qs (L1 _ _ _ _) (qs (L1 _ _ _ _) ES)))
def mq (P:List ar)(x:eH):au:=⟨⟨x.bQ.cQ,jg P x.bQ.bZ⟩,jg P x.cC⟩
def xv (P:List ar)(x:eH):Bool:=rW P x.bQ.bZ && rW P x.cC
theorem HN {cY:hU}{P:List ar}{raw:List aR}{dU c:Nat}{oY:List aR}{bN:hU->Bool}(e:raw=P.map (l0 cY 1 eI))(a1:oY.length=c)(a4:cY≠ .gone)(bH:bN cY=true){x:eH}(h:xv P x=true):zq dU (oY++raw) bN (dq dU c x) (aG (mq P x)):=by simp only[xv,dO] at h;obtain⟨h0,h1⟩:=h;exact⟨Zc rfl,L2 e cy a1 a4 bH h0,L2 e cy a1 a4 bH h1,trivial⟩
noncomputable abbrev bm:Program:=Go.Proofs.Tryz.prog
theorem tU:bm.follows .mixedOrders=true:=Go.Proofs.Tryz.checked.mixed
theorem a5 {N m:Nat}{c:Code}{E:List (Nat×aA)}{rows:List (List aR)}(tape:List ks){e:Exit}{s:S}{al:List Prop}(bC:cO al)
 (h:MC bm N m c tape (dv E rows) rows.length=some (e,s,al):=by kernel_rfl):lN bm N m c e (dv E rows) s:=Xq tU h bC (AL _ _)
theorem bg {f:FuncId}{args:List aA}{r:aA}{al:List Prop}(tape:List ks)(bC:cO al)(f7:n9:=ii)
 (h:IE bm f args [] tape [] [] f7=some (r,[],al):=by kernel_rfl):Con bm f args [] r []:=ais tU h bC
theorem h6 {f:FuncId}{args:List aA}{T i5:List (List aR)}{r:aA}{al:List Prop}(tape:List ks)(a3:List Nat)(di:List kg)(bC:cO al)(f7:n9:=ii)
 (h:IE bm f args T tape a3 di f7=some (r,i5,al):=by kernel_rfl):Con bm f args T r i5:=XW tU h bC
def YH (x:cN):Prop:=(fun s=>s.size<=maxLen) x.jl/\nV x.f9/\nV x.hc/\(fun _=>True) x.iZ
theorem afE (w:World):sq Go.Proofs.Tryz.prog w 84 b9 YH where
 pure:=nh
 size:=fun a=>by kernel_rfl
 opens:=fun h=>by obtain⟨aZ,cp⟩:=KD Tryz.underlying84 h;obtain⟨lA,i0,cr⟩:=tC cp 0 0 1 rfl rfl (by kernel_rfl) (agQ Tryz.underlying9 (by kernel_rfl));obtain⟨fw,i1,a6⟩:=tC cp 1 1 1 rfl rfl (by kernel_rfl) (wk Tryz.underlying3 (by kernel_rfl));obtain⟨fo,i2,cw⟩:=tC cp 2 2 1 rfl rfl (by kernel_rfl) (wk Tryz.underlying3 (by kernel_rfl));obtain⟨bA,JP,j8⟩:=tC cp 3 3 1 rfl rfl (by kernel_rfl) (ahM Tryz.underlying4 (by kernel_rfl));have a2:Go.Proofs.Tryz.prog.cellsOf 84=4:=(by kernel_rfl);exact⟨⟨lA,fw,fo,bA⟩,⟨i0,i1,i2,JP⟩,(lV.aw cr (lV.aw a6 (lV.aw cw (lV.aw j8 (lV.end_ (by omega)) (by rfl)) (by rfl)) (by rfl)) (by rfl))⟩
def X2 (x:c6):Prop:=nV x.bR/\nV x.bP/\nV x.h5
theorem aeV (w:World):sq Go.Proofs.Tryz.prog w 110 ca X2 where
 pure:=ng
 size:=fun a=>by kernel_rfl
 opens:=fun h=>by obtain⟨aZ,cp⟩:=KD Tryz.underlying110 h;obtain⟨lA,i0,cr⟩:=tC cp 0 0 1 rfl rfl (by kernel_rfl) (wk Tryz.underlying3 (by kernel_rfl));obtain⟨fw,i1,a6⟩:=tC cp 1 1 1 rfl rfl (by kernel_rfl) (wk Tryz.underlying3 (by kernel_rfl));obtain⟨fo,i2,cw⟩:=tC cp 2 2 1 rfl rfl (by kernel_rfl) (wk Tryz.underlying3 (by kernel_rfl));have a2:Go.Proofs.Tryz.prog.cellsOf 110=3:=(by kernel_rfl);exact⟨⟨lA,fw,fo⟩,⟨i0,i1,i2⟩,(lV.aw cr (lV.aw a6 (lV.aw cw (lV.end_ (by omega)) (by rfl)) (by rfl)) (by rfl))⟩
def pS (x:cT):Prop:=(fun l=>l.length<=maxLen/\ ∀x∈l,YH x) x.cq/\(fun l=>l.length<=maxLen/\ ∀x∈l,X2 x) x.bE
theorem aet (w:World):sq Go.Proofs.Tryz.prog w 25 h4 pS where
 pure:=vl
 size:=fun a=>by kernel_rfl
 opens:=fun h=>by obtain⟨aZ,cp⟩:=KD Tryz.underlying25 h;obtain⟨lA,i0,cr⟩:=tC cp 0 0 1 rfl rfl (by kernel_rfl) (KM (sz:=4) Tryz.underlying22 (by kernel_rfl) (by kernel_rfl) (by decide) (afE _));obtain⟨fw,i1,a6⟩:=tC cp 1 1 1 rfl rfl (by kernel_rfl) (KM (sz:=3) Tryz.underlying23 (by kernel_rfl) (by kernel_rfl) (by decide) (aeV _));have a2:Go.Proofs.Tryz.prog.cellsOf 25=2:=(by kernel_rfl);exact⟨⟨lA,fw⟩,⟨i0,i1⟩,(lV.aw cr (lV.aw a6 (lV.end_ (by omega)) (by rfl)) (by rfl))⟩
def yO (x:dp):Prop:=nV x.bR/\nV x.bP/\nV x.bQ/\nV x.cC
theorem afF (w:World):sq Go.Proofs.Tryz.prog w 70 eTBlock yO where
 pure:=ni
 size:=fun a=>by kernel_rfl
 opens:=fun h=>by obtain⟨aZ,cp⟩:=KD Tryz.underlying70 h;obtain⟨lA,i0,cr⟩:=tC cp 0 0 1 rfl rfl (by kernel_rfl) (wk Tryz.underlying3 (by kernel_rfl));obtain⟨fw,i1,a6⟩:=tC cp 1 1 1 rfl rfl (by kernel_rfl) (wk Tryz.underlying3 (by kernel_rfl));obtain⟨fo,i2,cw⟩:=tC cp 2 2 1 rfl rfl (by kernel_rfl) (wk Tryz.underlying3 (by kernel_rfl));obtain⟨bA,JP,j8⟩:=tC cp 3 3 1 rfl rfl (by kernel_rfl) (wk Tryz.underlying3 (by kernel_rfl));have a2:Go.Proofs.Tryz.prog.cellsOf 70=4:=(by kernel_rfl);exact⟨⟨lA,fw,fo,bA⟩,⟨i0,i1,i2,JP⟩,(lV.aw cr (lV.aw a6 (lV.aw cw (lV.aw j8 (lV.end_ (by omega)) (by rfl)) (by rfl)) (by rfl)) (by rfl))⟩
def MG (lA fw:Int)(fo bA eE gS:Nat)(rr:ar)(lp i9 eo BM:Nat):List aA:=[.n .i64 lA,.n .i64 fw,.bw fo bA eE gS,.isl 1 (rr.map eI),.bw lp i9 eo BM]
def Q9 (lA fw fo bA eE gS rr lp:Nat)(i9:Int):List aA:=[.bw lA fw fo bA,.bw eE gS rr lp,.n .i64 i9]
def u9 (lA:Int)(fw fo bA eE gS rr lp i9 eo BM Jg rX:Nat):List aA:=[.n .i64 lA,.bw fw fo bA eE,.bw gS rr lp i9,.bw eo BM Jg rX]
def MH (lA:Int)(fw fo bA eE:Nat)(gS:Bool)(rr lp:ar):List aA:=[.n .i64 lA,.bw fw fo bA eE,.b gS,.isl 1 (rr.map eI),.isl 1 (lp.map eI)]
def m7 (lA fw:Int)(fo bA eE gS rr lp i9 eo BM Jg rX x5:Nat):List aA:=[.n .i64 lA,.n .i64 fw,.bw fo bA eE gS,.bw rr lp i9 eo,.bw BM Jg rX x5]
def anG (lA fw fo bA:Nat)(eE:ar)(gS:Int):List aA:=[.bw lA fw fo bA,.isl 1 (eE.map eI),.n .i64 gS]
def kV (lA fw fo bA:Nat)(eE:Bool)(gS:ar)(rr lp i9 eo:Nat)(BM:Int)(Jg rX x5 o6:Nat):List aA:=[.bw lA fw fo bA,.b eE,.isl 1 (gS.map eI),.bw rr lp i9 eo,.n .i64 BM,.bw Jg rX x5 o6]
def Ra (lA:Bool)(fw:ar)(fo bA eE gS:Nat):List aA:=[.b lA,.isl 1 (fw.map eI),.bw fo bA eE gS]
def Rb (lA:Bool)(fw fo bA eE:Nat)(gS:ar):List aA:=[.b lA,.bw fw fo bA eE,.isl 1 (gS.map eI)]
def Rc (lA:Bool)(fw fo bA eE gS rr lp i9:Nat):List aA:=[.b lA,.bw fw fo bA eE,.bw gS rr lp i9]
def fL (r:Nat)(a:Int)(c:List bF)(d:ar)(e:List au)(p:List (List au)):List aR:=aR.mk 4 [[.n .i64 a,.bw r 1 0 c.length,.bw r 2 0 d.length,.bw r 3 0 e.length]] .live::aR.mk 1 (c.map (bT r 4 3)) .live::aR.mk 1 (d.map eI) .live::aR.mk 3 (e.map aG) .live::de 3 aG p
theorem iK (M:Nat->Option Nat)(r s:Nat)(a:Int)(c:List bF)(d:ar)(e:List au)(p:List (List au))(h:M s=some r)(k:aR.mk 4 [[.n .i64 a,.bw r 1 0 c.length,.bw r 2 0 d.length,.bw r 3 0 e.length]] .live=lK M (aR.mk 4 [[.n .i64 a,.bw s 1 0 c.length,.bw s 2 0 d.length,.bw s 3 0 e.length]] .live)):fL r a c d e p=(fL s a c d e p).map (lK M):=fy k (fy (zF M r s 4 3 h c) (fy (jC M 1 ja d) (fy (jC M 3 jj e) (ex M 3 jj p))))
theorem va (r:Nat)(a:Int)(c:List bF)(d:ar)(e:List au)(p:List (List au)):mP (fL r a c d e p):=ku rfl (ku rfl (ku rfl (ku rfl (yK (RM .live 3 aG p)))))
def j5 (i j k:Nat)(a b:Int)(c d e:ar):List aR:=[aR.mk 5 [[.n .i64 a,.n .i64 b,.bw i 0 0 c.length,.bw j 0 0 d.length,.bw k 0 0 e.length]] .live]
def lu (i j k:Nat)(c:List bF)(a:Bool)(b d:ar)(e:Int)(f:List Bool):List aR:=[aR.mk 6 [[.bw i 0 0 c.length,.b a,.isl 1 (b.map eI),.bw j 0 0 d.length,.n .i64 e,.bw k 0 0 f.length]] .live]
def xS (i j k:Nat)(a:Int)(c:List bF)(d:ar)(e:List au):List aR:=[aR.mk 4 [[.n .i64 a,.bw i 0 0 c.length,.bw j 0 0 d.length,.bw k 0 0 e.length]] .live]
def rb (a b:Int)(c d e:ar):List aR:=[aR.mk 5 [[.n .i64 a,.n .i64 b,.isl 1 (c.map eI),.isl 1 (d.map eI),.isl 1 (e.map eI)]] .live]
abbrev Jh:bK:=⟨false,[]⟩
def sG (c:List bF)(a:Bool)(b d:ar)(e:Int)(f:List Bool)(g:List (List bK)):List (List aR):=[lu 1 3 4 c a b d e f,bt 1 (bT 2 0 2) c,de 2 br g,bt 1 eI d,bt 1 gX f]
def rM (c:List bF)(a:Bool)(b d:ar)(e:Int)(f:List Bool)(g:List (List bK))(z:List aR):List (List aR):=[lu 1 3 4 c a b d e f,bt 1 (bT 2 0 2) c,de 2 br g,bt 1 eI d,bt 1 gX f,z]
def zu (a b:Int)(c d e:ar)(f:Int)(g:List bF)(h:ar)(i j:List au)(k:List (List au)):List (List aR):=[rb a b c d e,xS 3 5 6 f g h i,bt 3 aG j,bt 1 (bT 4 0 3) g,de 3 aG k,bt 1 eI h,bt 3 aG i]
def pK:List aR:=[aR.mk 5 [[.n .i64 0,.n .i64 0,.fQ,.fQ,.fQ]] .live]
def vb (a b:Int)(c d e:ar):List (List aR):=[j5 1 2 3 a b c d e,bt 1 eI c,bt 1 eI d,bt 1 eI e]
def rY (c:List bF)(g:List (List bK)):List kg:=[.box lk,.bq (bt 1 (bT 2 0 2) c),.bq (de 2 br g),.pure,.pure,.pure]
def ub (c:List bF)(g:List (List bK)):List kg:=[.box lk,.bq (bt 1 (bT 2 0 2) c),.bq (de 2 br g),.pure,.pure]
def tj (a:List cN)(b:List c6):List aR:=[aR.mk 2 [[.isl 4 (a.map b9),.isl 3 (b.map ca)]] .live]
def vc (n:Nat)(a:List cN)(b:List c6):Nat×aA:=(n,.gv 2 [[.isl 4 (a.map b9),.isl 3 (b.map ca)]] 0 0)
theorem ow {x:Option eL}{y:eL}(h:x=some y):lI (jx 3 cZ x) (.hr 3 (some (cZ y))):=anw h
def ik (n:Nat)(x:bK):f8:=i6 n (.agg (br x)) false
def kW (n:Nat)(x:au):f8:=i6 n (.agg (aG x)) false
def FH (a:List cN)(b:List c6):B4:={a3:=[],di:=[],ac:=[ii],r:= .agg [.bw 0 0 0 a.length,.bw 0 1 0 b.length],eU:=[[aR.mk 4 (a.map b9) .live,aR.mk 3 (b.map ca) .live]],f7:= .a6 (.agg [.id,.id]),gK:=[.bq [aR.mk 4 (a.map b9) .live,aR.mk 3 (b.map ca) .live]],en:=[],d4:=true}
abbrev arI:=List au
abbrev arJ:=List bK
abbrev arK:=List arJ
abbrev arL:=List bF
abbrev arM:=List arI
abbrev arN:=Option eL
abbrev arO:=List Bool
abbrev arP:=List cN
abbrev arQ:=List c6
abbrev arR:=List ar
abbrev arS:=List dp
abbrev arT:=Option Bool
abbrev arU:=List arN
abbrev arV:=List eH
abbrev arW:=Option Int
abbrev arX:=List fE
abbrev arY:=Option ar
abbrev arZ:=Option bK
abbrev ar0:=List ks
abbrev ar1:=Option au
abbrev ar2:=Option arN
end Go.Proofs.YthgbjflfgmahbafGreat
