/- Lemmas, plain functions of the program, and what they answer. No condition. -/
import Derived.Carry
import Derived.ChangeOld
import Derived.ChangeSlices
import Derived.LoopN
import Derived.OwnWalk
import Derived.Scope
import Derived.Test.YthgbjflfgmahbaeGreatChecked
import Derived.Test.YthgbjflfgmahbaeGreatMA
namespace Go.VL
set_option linter.unusedVariables false
set_option linter.unusedSimpArgs false
open Go
theorem xN {α β:Type}{f lF:α->β->Option (β×List Prop)}(cq:∀a b z,lF a b=some z->f a b=some z): ∀ {l:List α} {m:List β} {z:List β×List Prop},nM lF l m=some z->nM f l m=some z
 | [],[],z,h=>h
 | [],_::_,z,h=>by simp[nM] at h
 | _::_,[],z,h=>by simp[nM] at h
 | a::l,b::m,z,h=>by
  simp only[nM] at h ⊢;split at h
  ·rename_i lR bX aH aK h1 h2;rw[cq _ _ _ h1,xN cq h2];exact h
  simp at h
section
variable {a8 jg:Nat->Option (List aS)} (dv : ∀r row,jg r=some row->a8 r=some row)
include dv
theorem J5 {r k:Nat}{o:aS}(h:d8 (jg r) k=some o):d8 (a8 r) k=some o:=by
 cases aj:jg r with
 | none=>rw[aj] at h;simp[d8] at h
 | some row=>rw[dv r row aj];rw[aj] at h;exact h
theorem N6 {r k:Nat}{dc:fY}{z:aS×List Prop}(h:qE (jg r) k dc=some z):qE (a8 r) k dc=some z:=by
 cases aj:jg r with
 | none=>rw[aj] at h;unfold qE at h;split at h<;>simp[d8] at h
 | some row=>rw[dv r row aj];rw[aj] at h;exact h
theorem DA {b1:Nat->Option Nat}{a4:iq}{bJ:hr->Bool}{c:u5}{x:aF}{z:aF×List Prop}(h:nL jg b1 a4 bJ c x=some z):nL a8 b1 a4 bJ c x=some z:=by
 cases c with
 | id =>
  simp only[nL] at h ⊢;exact h
 | fv sz=>cases x<;>exact h
 | kz=>exact h
 | cE y=>exact h
 | sk sz=>exact h
 | len n=>cases x<;>exact h
 | at_ j i n=>cases x<;>exact h
 | view c8 o es =>
  cases x<;>simp only[nL,reduceCtorEq] at h ⊢;split at h
  ·rename_i row jY h1 h2;rw[dv _ _ h1,dv _ _ h2];exact h
  simp at h
 | ep es =>
  cases x<;>simp only[nL,reduceCtorEq] at h ⊢;split at h
  ·rename_i o ap;rw[J5 dv ap];exact h
  simp at h
theorem NV {b1:Nat->Option Nat}{a4:iq}{bJ:hr->Bool}{c:E4}{x:aF}{z:aF×List Prop}(h:qC jg b1 a4 bJ c x=some z):qC a8 b1 a4 bJ c x=some z:=by
 cases c with
 | bV c =>
  simp only[qC] at h ⊢;split at h
  ·rename_i aU
   rw[dw aU];split at h
   ·exact h
   ·exact h
   ·exact h
   exact DA dv h
  rename_i aU;rw[dA aU];exact DA dv h
 | agg l =>
  cases x<;>simp only[qC,reduceCtorEq] at h ⊢;split at h
  ·rename_i ez ao a0;rw[xN (fun a b z h=>DA dv h) a0];exact h
  simp at h
 | ptr l =>
  cases x<;>simp only[qC,reduceCtorEq] at h ⊢;split at h;rotate_left
  ·simp at h
  rename_i o ap;rw[J5 dv ap];simp only;split at h
  ·rename_i c jn
   split at h
   ·rename_i a0
    rw[dw a0];split at h
    ·rename_i ez ao jJ;rw[xN (fun a b z h=>DA dv h) jJ];exact h
    simp at h
   simp at h
  simp at h
 | w0 l =>
  simp only[qC] at h ⊢;split at h;rotate_left
  ·simp at h
  split at h;rotate_left
  ·simp at h
  rename_i o ap;rw[J5 dv ap];simp only;split at h
  ·rename_i c jn
   split at h
   ·rename_i a0
    rw[dw a0];split at h
    ·rename_i ez ao jJ;rw[xN (fun a b z h=>DA dv h) jJ];exact h
    simp at h
   simp at h
  simp at h
theorem VV {b1:Nat->Option Nat}{a4:iq}{bJ:hr->Bool}{c:ni}{x:aF}{z:aF×List Prop}(h:pX jg b1 a4 bJ c x=some z):pX a8 b1 a4 bJ c x=some z:=by
 cases c with
 | bf c =>
  simp only[pX] at h ⊢;split at h
  ·rename_i aU
   rw[dw aU];split at h
   ·exact h
   exact NV dv h
  rename_i aU;rw[dA aU];exact NV dv h
 | comp l =>
  cases x<;>simp only[pX,reduceCtorEq] at h ⊢
  all_goals
   split at h
   ·rename_i ez ao a0;rw[xN (fun a b z h=>NV dv h) a0];exact h
   simp at h
theorem VW {b1:Nat->Option Nat}{a4:iq}{bJ:hr->Bool}{c:j2}{row:List aS}{z:List aS×List Prop}(h:kT jg b1 a4 bJ c row=some z):kT a8 b1 a4 bJ c row=some z:=by
 cases c with
 | pure=>exact h
 | cE eM=>exact h
 | bq aO=>exact h
 | rx aO=>cases row with
  | nil=>simp[kT] at h
  | cons o l=>cases l<;>simp[kT] at h
 | drop=>cases row with
  | nil=>simp[kT] at h
  | cons o l=>cases l<;>simp[kT] at h
 | box l =>
  match row,h with
  | [o],h =>
   simp only[kT] at h ⊢;split at h
   ·rename_i c jn
    split at h
    ·rename_i a2
     rw[dw a2];split at h
     ·rename_i ez ao a0;rw[xN (fun a b z h=>DA dv h) a0];exact h
     simp at h
    simp at h
   simp at h
  | [],h=>simp[kT] at h
  | _::_::_,h=>simp[kT] at h
theorem NL {b1:Nat->Option Nat}{a4:iq}: ∀ {l:List Src} {c9:List j2} {z:List (List aS)×List Prop},ol jg b1 a4 l c9=some z->ol a8 b1 a4 l c9=some z
 | [],[],z,h=>h
 | .row r::l,c::c9,z,h=>by
  simp only[ol] at h ⊢;split at h
  ·rename_i row ev
   rw[dv r row ev];simp only;split at h
   ·rename_i eM bX T aK h1 h2;rw[VW dv h1,NL h2];exact h
   simp at h
  simp at h
 | .ao r k o::l,c::c9,z,h=>by
  simp only[ol] at h ⊢;split at h
  ·rename_i row ev
   rw[dv r row ev];simp only;split at h
   ·rename_i eM bX T aK h1 h2;rw[VW dv h1,NL h2];exact h
   simp at h
  simp at h
 | [],_::_,z,h=>by simp[ol] at h
 | .row _::_,[],z,h=>by simp[ol] at h
 | .ao .. :: _,[],z,h=>by simp[ol] at h
omit dv in
theorem JO {Ba:Nat->Option (List aS)}{b1:Nat->Option Nat}{mP:iq}: ∀ {l:List Src} {c9:List j2} {T:List (List aS)} {a8 jg:Nat->Option (List aS)} {z:List (Nat×List aS)×List Prop},
 (∀r row,jg r=some row->a8 r=some row)->m5 Ba b1 mP jg l c9 T=some z->m5 Ba b1 mP a8 l c9 T=some z
 | [],[],[],a8,jg,z,_,h=>h
 | .row q::l,c::c9,row::T,a8,jg,z,dv,h=>by
  simp only[m5] at h ⊢;split at h
  ·rename_i eM bX h1
   split at h
   ·rename_i u aK h2;rw[JO (fun r row aj=>by split at aj<;>rename_i e<;>simp only[e,if_true,if_false]<;>first|exact aj|exact dv _ _ aj) h2];exact h
   simp at h
  simp at h
 | .ao q k o::l,c::c9,row::T,a8,jg,z,dv,h=>by
  simp only[m5] at h ⊢;split at h
  ·rename_i nT a0
   rw[dv _ _ a0];simp only;split at h
   ·rename_i cp bX h1
    split at h
    ·rename_i u aK h2;rw[JO (fun r row aj=>by split at aj<;>rename_i e<;>simp only[e,if_true,if_false]<;>first|exact aj|exact dv _ _ aj) h2];exact h
    simp at h
   simp at h
  simp at h
 | [],[],_::_,_,_,_,_,h=>by simp[m5] at h
 | [],_::_,_,_,_,_,_,h=>by simp[m5] at h
 | .row _::_,[],_,_,_,_,_,h=>by simp[m5] at h
 | .ao .. :: _,[],_,_,_,_,_,h=>by simp[m5] at h
 | .row _::_,_::_,[],_,_,_,_,h=>by simp[m5] at h
 | .ao .. :: _,_::_,[],_,_,_,_,h=>by simp[m5] at h
omit dv in
theorem Om : ∀ {u:List (Nat×List aS)} {a8 jg:Nat->Option (List aS)} {q:Nat} {row:List aS},(∀r row,jg r=some row->a8 r=some row)->EG u jg q=some row->EG u a8 q=some row
 | [],_,_,_,_,dv,h=>dv _ _ h
 | (r,ad)::u,a8,jg,q,row,dv,h=>Om (u:=u) (fun r row aj=>by split at aj<;>rename_i e<;>simp only[e,if_true,if_false]<;>first|exact aj|exact dv _ _ aj) h
theorem afl {ba r n:Nat}{bK sb:jv}(h:zK jg ba r n bK=some sb):zK a8 ba r n bK=some sb:=by
 unfold zK at h ⊢;split at h
 ·rename_i gL l h1 h2;rw[Om dv h1,Om dv h2];exact h
 simp at h
theorem agA {P:Program}{ba:Nat}{f:FuncId}{args:List aF}{cO:A7}{bK:jv}(h:Ef P jg ba f args cO=some bK):Ef P a8 ba f args cO=some bK:=by
 unfold Ef at h ⊢;simp only at h ⊢;split at h
 ·simp at h
 rename_i nC h0;split at h
 ·simp at h
 rename_i AH;rw[dA AH];split at h
 ·rename_i Ib
  rw[dw Ib];split at h
  ·rename_i yq
   split at h
   ·rename_i tK bX fH eQ u ei h1 J ak;rw[xN (fun a b z h=>VV dv h) h1,J,JO dv ak];exact h
   simp at h
  simp at h
 rename_i Ib;rw[dA Ib];split at h
 ·rename_i tK bX T aK fH eQ u ei h1 h2 J ak;rw[xN (fun a b z h=>VV dv h) h1,NL dv h2,J,JO dv ak];exact h
 simp at h
end
theorem mapM_congr {α β:Type}{f lF:α->Option β}: ∀ {l:List α},(∀x∈l,lF x=f x)->l.mapM lF=l.mapM f
 | [],_=>rfl
 | x::l,h=>by rw[List.mapM_cons,List.mapM_cons,h x (by simp),mapM_congr fun y aV=>h y (by simp[aV])]
theorem agB {P:Program}{a8 jg:Nat->Option (List aS)}{t:TypeId}{x mg:aF}{dc:fY}{bK:jv}(dv:∀r row,jg r=some row->a8 r=some row)(h:Eb P jg t x mg dc=some bK):Eb P a8 t x mg dc=some bK:=by
 unfold Eb at h ⊢;split at h
 ·split at h
  ·rename_i a1;rw[N6 dv a1];exact h
  simp at h
 simp at h
theorem Ki {P:Program}{E pn:Nat->aF}{a8 jg:Nat->Option (List aS)}{ba:Nat}{o:Oper}{dc:fY}{bK:jv}
 (e8 : ∀x∈o.op.operands,fN pn x=fN E x) (dv : ∀r row,jg r=some row->a8 r=some row) (h:fR P pn jg ba o dc=some bK):fR P E a8 ba o dc=some bK:=by
 have bt : ∀ {r k:Nat} {z:aS×List Prop},qE (jg r) k dc=some z->qE (a8 r) k dc=some z:=fun h=>N6 dv h
 cases ap:o.op with
 | move x=>simp only[fR,ap] at h ⊢;rw[<- e8 x (by simp[ap,Op.operands])];exact h
 | assign x=>simp only[fR,ap] at h ⊢;rw[<- e8 x (by simp[ap,Op.operands])];exact h
 | pick c x y =>
  simp only[fR,ap] at h ⊢;rw[<- e8 c (by simp[ap,Op.operands]),<- e8 x (by simp[ap,Op.operands]),<- e8 y (by simp[ap,Op.operands])];exact h
 | alloc t=>simp only[fR,ap] at h ⊢;exact h
 | box t x=>simp only[fR,ap] at h ⊢;rw[<- e8 x (by simp[ap,Op.operands])];exact h
 | load t x =>
  simp only[fR,ap] at h ⊢;rw[<- e8 x (by simp[ap,Op.operands])];split at h
  ·split at h
   ·rename_i a1;rw[bt a1];exact h
   simp at h
  ·exact h
  simp at h
 | store t x y =>
  simp only[fR,ap] at h ⊢;rw[<- e8 x (by simp[ap,Op.operands]),<- e8 y (by simp[ap,Op.operands])];split at h
  ·split at h
   ·simp at h
   rename_i row ev;rw[dv _ row ev];exact h
  simp at h
 | nilCheck x =>
  simp only[fR,ap] at h ⊢;rw[<- e8 x (by simp[ap,Op.operands])];split at h
  ·split at h
   ·rename_i a1;rw[bt a1];exact h
   simp at h
  ·exact h
  ·exact h
  simp at h
 | binOp op t x y cI =>
  simp only[fR,ap] at h ⊢;rw[<- e8 x (by simp[ap,Op.operands]),<- e8 y (by simp[ap,Op.operands])];exact h
 | unOp op t x=>simp only[fR,ap] at h ⊢;rw[<- e8 x (by simp[ap,Op.operands])];exact h
 | convert t cI x =>
  simp only[fR,ap] at h ⊢;rw[<- e8 x (by simp[ap,Op.operands])];split at h
  ·exact h
  ·rename_i r k cb len h1 h2
   split at h
   ·rename_i ao J ak;rw[J5 dv ak,J];exact h
   simp at h
  simp at h
 | makeFunc f IU cO =>
  cases f with
  | func n =>
   simp only[fR,ap] at h ⊢;have:cO.toList.map (fN pn)=cO.toList.map (fN E):=ap8 fun x U=>e8 x (by simp[ap,Op.operands];right;simpa using U);rw[<- this];exact h
  | _=>simp[fR,ap] at h
 | makeSlice t x y =>
  simp only[fR,ap] at h ⊢;rw[<- e8 x (by simp[ap,Op.operands]),<- e8 y (by simp[ap,Op.operands])];exact h
 | fieldAddr t x f =>
  simp only[fR,ap] at h ⊢;rw[<- e8 x (by simp[ap,Op.operands])];split at h
  ·split at h
   ·split at h
    ·simp at h
    rename_i cB;rw[dA cB];split at h
    ·split at h
     ·rename_i a1;rw[bt a1];exact h
     simp at h
    ·exact h
    simp at h
   simp at h
  simp at h
 | field t x f=>simp only[fR,ap] at h ⊢;rw[<- e8 x (by simp[ap,Op.operands])];exact h
 | indexAddr t x y =>
  simp only[fR,ap] at h ⊢;rw[<- e8 x (by simp[ap,Op.operands]),<- e8 y (by simp[ap,Op.operands])];split at h
  ·split at h
   ·exact h
   ·split at h
    ·rename_i row ev;rw[dv _ row ev];exact h
    simp at h
   simp at h
  exact agB dv h
 | index t x y =>
  simp only[fR,ap] at h ⊢;rw[<- e8 x (by simp[ap,Op.operands]),<- e8 y (by simp[ap,Op.operands])];exact h
 | extract x i=>simp only[fR,ap] at h ⊢;rw[<- e8 x (by simp[ap,Op.operands])];exact h
 | slice t x cb aa QO =>
  cases QO with
  | none =>
   simp only[fR,ap] at h ⊢
   have e1:cb.map (fN pn)=cb.map (fN E):=by
    cases cb with
    | none=>rfl
    | some y=>simp only[apR];rw[e8 y (by simp[ap,Op.operands])]
   have e2:aa.map (fN pn)=aa.map (fN E):=by
    cases aa with
    | none=>rfl
    | some y=>simp only[apR];rw[e8 y (by simp[ap,Op.operands])]
   rw[<- e8 x (by simp[ap,Op.operands]),<- e1,<- e2];split at h
   ·exact h
   ·split at h
    ·simp at h
    rename_i row ev;rw[dv _ row ev];exact h
   ·exact h
   simp at h
  | some m=>simp[fR,ap] at h
 | build t kz =>
  simp only[fR,ap] at h ⊢;have ah : ∀p∈kz.toList,fN pn p.2=fN E p.2:=fun p ah=>e8 p.2 (by simp only[ap,Op.operands];rw[<- Array.mem_toList_iff];simp only[List.mem_map];exact⟨p,ah,rfl⟩);split at h
  ·rename_i mO z _ _
   split at h
   ·simp at h
   rename_i a1;rw[dA a1]
   have e:(kz.toList.mapM fun (p:Nat×Operand)=>(mO[p.1]?).map fun fd=>(fd.offset,P.cellsOf fd.type,fN pn p.2)) =
    kz.toList.mapM fun (p:Nat×Operand)=>(mO[p.1]?).map fun fd=>(fd.offset,P.cellsOf fd.type,fN E p.2):=mapM_congr fun p nb=>by rw[ah p nb]
   rw[<- e];exact h
  rw[<- (ap8 fun p nb=>by rw[ah p nb]:(kz.toList.map fun p=>(p.1,fN pn p.2))=kz.toList.map fun p=>(p.1,fN E p.2))];exact h
 | buildSlice t n kz =>
  simp only[fR,ap] at h ⊢;have ah : ∀p∈kz.toList,fN pn p.2=fN E p.2:=fun p ah=>e8 p.2 (by simp only[ap,Op.operands];rw[<- Array.mem_toList_iff];simp only[List.mem_map];exact⟨p,ah,rfl⟩);have e:(kz.toList.map fun p=>(p.1,fN pn p.2))=kz.toList.map fun p=>(p.1,fN E p.2):=ap8 fun p nb=>(by rw[ah p nb]);rw[<- e];exact h
 | call c =>
  obtain⟨Lz,args,o7⟩:=c
  cases Lz with
  | builtin b =>
   cases b<;>first
    | (simp only[fR,ap] at h ⊢
       have e:args.toList.map (fN pn)=args.toList.map (fN E):=ap8 fun x U=>e8 x (by simp only[ap,Op.operands,Call.operands];simpa using U);rw[<- e];split at h
       ·exact h
       ·split at h
        ·rename_i row ev;rw[dv _ row ev];exact h
        simp at h
       ·exact h
       ·exact h
       simp at h)
    | simp[fR,ap] at h
  | value f=>simp[fR,ap] at h
  | invoke r m=>simp[fR,ap] at h
 | _=>simp[fR,ap] at h
theorem VX {a8 jg:Nat->Option (List aS)}(dv:∀r row,jg r=some row->a8 r=some row){sz:Nat}{x:aF}{gM:fY}{z:List (List aF)×List Prop}(h:uF sz jg gM x=some z):uF sz a8 gM x=some z:=by
 cases x with
 | br r k cb len =>
  simp only[uF] at h ⊢;split at h
  ·rename_i ao bX bt;rw[N6 dv bt];exact h
  simp at h
 | _=>exact h
theorem Vt {P:Program}{a8 jg:Nat->Option (List aS)}(dv:∀r row,jg r=some row->a8 r=some row){sz:Nat}{z:List aF}{t cI:TypeId}{x:aF}{gM:fY}{y:List (List aF)×List Prop}(h:zY P sz z jg gM t cI x=some y):zY P sz z a8 gM t cI x=some y:=by
 unfold zY at h ⊢;split at h
 ·rename_i e;rw[dw e];exact VX dv h
 rename_i e;rw[dA e];exact h
theorem aim {P:Program}{E pn:Nat->aF}{a8 jg:Nat->Option (List aS)}{ba:Nat}{b:Builtin}{args:List aF}{o7:List TypeId}{dc:fY}{bK:jv}
 (dv : ∀r row,jg r=some row->a8 r=some row) (h:qa P pn jg ba b args o7 dc=some bK):qa P E a8 ba b args o7 dc=some bK:=by
 unfold qa at h ⊢;split at h
 ·split at h
  ·simp at h
  split at h;rotate_left
  ·simp at h
  split at h
  ·simp at h
  rename_i a0;rw[dA a0];split at h
  ·simp at h
  rename_i bw bX uK;rw[Vt dv uK];simp only;split at h
  ·exact h
  ·split at h
   ·simp at h
   rename_i row ev;rw[dv _ row ev];exact h
  simp at h
 ·split at h
  ·simp at h
  split at h;rotate_left
  ·simp at h
  split at h
  ·simp at h
  rename_i a0;rw[dA a0];split at h
  ·simp at h
  rename_i bw bX uK;rw[Vt dv uK];simp only;split at h
  ·split at h
   ·simp at h
   rename_i row ev;rw[dv _ row ev];exact h
  simp at h
 ·split at h
  ·simp at h
  split at h
  ·simp at h
  split at h
  ·simp at h
  rename_i bw bX uK;rw[VX dv uK];simp only;split at h
  ·simp at h
  rename_i row ev;rw[dv _ row ev];exact h
 ·split at h
  ·simp at h
  split at h
  ·split at h
   ·simp at h
   rename_i row ev;rw[dv _ row ev];exact h
  simp at h
 ·exact h
 simp at h
theorem ain {P:Program}{E pn:Nat->aF}{a8 jg:Nat->Option (List aS)}{ba:Nat}{o:Oper}{dc:fY}{bK:jv}
 (e8 : ∀x∈o.op.operands,fN pn x=fN E x) (dv : ∀r row,jg r=some row->a8 r=some row) (h:EC P pn jg ba o dc=some bK):EC P E a8 ba o dc=some bK:=by
 unfold EC at h ⊢;split at h
 ·rename_i b args o7 ap
  split at h
  ·exact Ki e8 dv h
  have e:args.toList.map (fN pn)=args.toList.map (fN E):=ap8 fun x U=>e8 x (by simp only[ap,Op.operands,Call.operands];simpa using U);rw[<- e];exact aim dv h
 ·rename_i op t x y cI ap
  have jL:=e8 x (by simp[ap,Op.operands]);have kM:=e8 y (by simp[ap,Op.operands]);rw[<- jL,<- kM];split at h
  ·exact h
  ·exact h
  ·exact h
  ·exact h
  ·exact h
  ·exact h
  ·simp at h
  exact Ki e8 dv h
 ·rename_i x ap
  have jL:=e8 x (by simp[ap,Op.operands]);rw[<- jL];split at h
  ·exact h
  ·simp at h
  exact Ki e8 dv h
 exact Ki e8 dv h
theorem zq {P:Program}{s b8:S}{ba:Nat}{o:Oper}{dc:fY}{bK:jv}
 (e8 : ∀x∈o.op.operands,fN b8.E x=fN s.E x) (dv : ∀r row,b8.a8 r=some row->s.a8 r=some row) (aj:D5 P b8 ba o dc=some bK):D5 P s ba o dc=some bK:=by
 unfold D5 at aj ⊢;split at aj
 ·rename_i cO
  split at aj
  ·rename_i f args pk ap
   simp only[ap] at aj e8 ⊢;have cq:=e8 f (by simp[Op.operands,Call.operands]);have bF:args.toList.map (fN b8.E)=args.toList.map (fN s.E):=ap8 fun x U=>e8 x (by simp only[Op.operands,Call.operands];simp only[Array.mem_append];right;simpa using U);rw[cq,bF] at aj;split at aj
   ·exact agA dv aj
   simp at aj
  simp at aj
 exact ain e8 dv aj
theorem J0 {P:Program}{ba:Nat}{o:Oper}: ∀(dc:fY) (s b8:S) (bK:jv),(∀x∈o.op.operands,fN b8.E x=fN s.E x)->(∀r row,b8.a8 r=some row->s.a8 r=some row) ->
 mF P ba o dc b8=some bK->mF P ba o dc s=some bK
 | .fm t v gM,s,b8,bK,e8,dv,h=>by
  unfold mF at h ⊢;split at h;rotate_left
  ·simp at h
  rename_i ke;rw[dw ke]
  have lZ:Operand.tmp t∈o.op.operands:=by
   unfold Yg at ke;rw[List.any_eq_true] at ke;obtain⟨x,U,a1⟩:=ke
   cases x with
   | tmp u =>
    have:u=t:=(by simpa using a1);subst this;simpa using U
   | _=>simp at a1
  have het:b8.E t=s.E t:=e8 _ lZ;split at h
  ·rename_i r aj
   have:=J0 gM {E:=fun u=>if u=t then v else s.E u,a8:=s.a8} {E:=fun u=>if u=t then v else b8.E u,a8:=b8.a8} r (fun x U=>by
    cases x with
    | tmp u =>
     show (if u=t then v else b8.E u)=(if u=t then v else s.E u);split
     ·rfl
     exact e8 (.tmp u) U
    | _=>rfl) dv aj
   rw[this];simp only;rw[<- het];exact h
  simp at h
 | .s8 r gM,s,b8,bK,e8,dv,h=>by
  unfold mF at h ⊢;split at h
  ·rename_i row ev
   rw[dv r row ev];simp only;split at h
   ·rename_i sb aj
    have:=J0 gM (s.setRow r (n6 row)) (b8.setRow r (n6 row)) sb e8 (fun q eM a1=>by
     simp only[S.setRow] at a1 ⊢;split at a1
     ·rename_i e;rw[dw e];exact a1
     rename_i e;rw[dA e];exact dv q eM a1) aj
    rw[this];exact h
   simp at h
  simp at h
 | .u6 r n gM,s,b8,bK,e8,dv,h=>by
  unfold mF at h ⊢;split at h
  ·rename_i sb aj;rw[J0 gM s b8 sb e8 dv aj];exact afl dv h
  simp at h
 | .none,s,b8,bK,e8,dv,h=>by unfold mF at h ⊢;exact zq e8 dv h
 | .ab b,s,b8,bK,e8,dv,h=>by unfold mF at h ⊢;exact zq e8 dv h
 | .cf c,s,b8,bK,e8,dv,h=>by unfold mF at h ⊢;exact zq e8 dv h
 | .gS ao c,s,b8,bK,e8,dv,h=>by unfold mF at h ⊢;exact zq e8 dv h
 | .eb,s,b8,bK,e8,dv,h=>by unfold mF at h ⊢;exact zq e8 dv h
 | .call c,s,b8,bK,e8,dv,h=>by unfold mF at h ⊢;exact zq e8 dv h
 | .aB m cp,s,b8,bK,e8,dv,h=>by unfold mF at h ⊢;exact zq e8 dv h
def tmpsOf (o:Oper):List Nat:=o.op.operands.toList.filterMap fun | .tmp t=>some t|_=>none
def aj4:aF->List Nat
 | .ref r _ _ _=>[r]
 | .br r _ _ _=>[r]
 | .kx r _ _ _=>[r]
 | _=>[]
def qQ (ops:Array Oper)(o:Oper):List Nat :=
 tmpsOf o++(match o.guard with
  | some (j,_)=>((ops[j]?).bind (·.dst)).toList
  | none=>[])
def EH (s:S)(o:Oper):fY->List Nat
 | .call cO=>cO.ex
 | .fm t v gM=>EH {E:=fun u=>if u=t then v else s.E u,a8:=s.a8} o gM
 | .s8 r gM=>r::EH s o gM
 | .u6 r _ gM=>r::EH s o gM
 | _=>match o.op with
  | .move _=>[]
  | _=>(tmpsOf o).flatMap fun t=>aj4 (s.E t)
def S.only (s:S)(pk la:List Nat):S:={E:=fun t=>if pk.contains t then s.E t else .dead,a8:=fun r=>if la.contains r then s.a8 r else none}
theorem NW {P:Program}{N:Nat}{ops:Array Oper}{s:S}{ba:Nat}{o:Oper}{gM:fY×Bool}{bK:jv}{la:List Nat}
 (h:tL P N ops (s.only (qQ ops o) la) ba o gM=some bK):tL P N ops s ba o gM=some bK:=by
 have e8 : ∀x∈o.op.operands,fN (s.only (qQ ops o) la).E x=fN s.E x:=by
  intro x U
  cases x with
  | tmp t =>
   have:t∈qQ ops o:=(by unfold qQ;rw[List.mem_append];left;unfold tmpsOf;rw[List.mem_filterMap];exact⟨.tmp t,by simpa using U,rfl⟩);simp[fN,S.only,this]
  | _=>rfl
 have dv : ∀r row,(s.only (qQ ops o) la).a8 r=some row->s.a8 r=some row:=by
  intro r row aj;simp only[S.only] at aj;split at aj
  ·exact aj
  simp at aj
 have h0 : ∀r,KR P (s.only (qQ ops o) la) ba o gM.1=some r->KR P s ba o gM.1=some r:=fun r aj=>J0 gM.1 s _ r e8 dv aj
 have h1 : ∀r,wT P (s.only (qQ ops o) la) ba o gM.1=some r->wT P s ba o gM.1=some r:=by
  intro r aj;unfold wT at aj ⊢;split at aj;rotate_left
  ·simp at aj
  rename_i fH jo;rw[h0 fH jo];simp only;split at aj
  ·rename_i a0
   rw[dw]
   ·exact aj
   rw[List.all_eq_true] at a0 ⊢;intro p ah;have:=a0 p ah;simp only[Bool.or_eq_true,decide_eq_true_eq] at this ⊢;rcases this with e|e
   ·exact .inl e
   right
   cases a1:(s.only (qQ ops o) la).a8 p.1 with
   | none=>rw[a1] at e;simp at e
   | some row=>rw[dv _ row a1];rfl
  simp at aj
 unfold tL at h ⊢;split at h
 ·simp at h
 rename_i HM;rw[dA HM];split at h
 ·exact h1 _ h
 rename_i j want du;split at h
 ·simp at h
 rename_i d bD;have lZ:d∈qQ ops o:=by unfold qQ;rw[List.mem_append];right;simp[du,bD]
 have he:(s.only (qQ ops o) la).E d=s.E d:=by simp[S.only,lZ]
 rw[he] at h;split at h
 ·split at h
  ·rename_i a3
   rw[dw a3];split at h
   ·rename_i r aj;rw[h1 r aj];exact h
   simp at h
  rename_i a3;rw[dA a3];exact h
 ·exact h
 simp at h
structure Rec where
 o:Oper
 gM:fY×Bool
 pk:List Nat
 la:List Nat
 bK:jv
def tD (P:Program)(N:Nat)(ops:Array Oper):List Oper->List (fY×Bool)->S->Nat->Option (S×List Rec)
 | [],[],s,_=>some (s,[])
 | o::l,gM::dc,s,ba =>
  match tL P N ops (s.only (qQ ops o) (ba::EH s o gM.1)) ba o gM with
  | some bK=>match tD P N ops l dc (s.aB o bK) (ba+1) with
   | some (b8,rec)=>some (b8,⟨o,gM,qQ ops o,ba::EH s o gM.1,bK⟩::rec)
   | none=>none
  | none=>none
 | _,_,_,_=>none
def meets (a b:List Nat):Bool:=a.any fun x=>b.contains x
def sO (x y:Rec):Bool :=
 meets x.o.dst.toList (y.pk++y.o.dst.toList) || meets x.pk y.o.dst.toList ||
 meets (x.bK.hj.map (·.1)) (y.la++y.bK.hj.map (·.1)) || meets x.la (y.bK.hj.map (·.1))
def S.m1 (s:S):Nat⊕Nat->aF⊕Option (List aS)
 | .inl t=> .inl (s.E t)
 | .inr r=> .inr (s.a8 r)
theorem S.Yh {s b8:S}(h:∀L,s.m1 L=b8.m1 L):s=b8:=by
 obtain⟨E,a8⟩:=s;obtain⟨pn,jg⟩:=b8;have h1:E=pn:=funext fun t=>by have:=h (.inl t);simpa [S.m1] using this
 have h2:a8=jg:=funext fun r=>by have:=h (.inr r);simpa [S.m1] using this
 rw[h1,h2]
def sA:List (Nat×List aS)->Nat->Option (List aS)
 | [],_=>none
 | (r,row)::u,q=>match sA u q with
  | some x=>some x
  | none=>if r=q then some row else none
theorem Wt : ∀(u:List (Nat×List aS)) (s:S) (q:Nat),(s.jQ u).a8 q=match sA u q with|some x=>some x|none=>s.a8 q
 | [],s,q=>rfl
 | (r,row)::u,s,q=>by
  show ((s.setRow r row).jQ u).a8 q=_;rw[Wt u (s.setRow r row) q];simp only[sA]
  cases sA u q with
  | some x=>rfl
  | none =>
   simp only[S.setRow];by_cases h:r=q
   ·subst h;simp
   rw[dA (Ne.symm h),dA h]
theorem Gr : ∀(u:List (Nat×List aS)) (q:Nat),sA u q≠none->q∈u.map (·.1)
 | [],q,h=>by simp[sA] at h
 | (r,row)::u,q,h=>by
  simp only[sA] at h
  cases a1:sA u q with
  | some x=>simp[Gr u q (by rw[a1];simp)]
  | none =>
   rw[a1] at h;simp only at h;by_cases e:r=q
   ·simp[e]
   rw[dA e] at h;simp at h
def pc (x:Rec):Nat⊕Nat->Option (aF⊕Option (List aS))
 | .inl t=>if x.o.dst=some t then some (.inl x.bK.val) else none
 | .inr r=>(sA x.bK.hj r).map fun row=> .inr (some row)
theorem Hb (s:S)(x:Rec)(L:Nat⊕Nat):(s.aB x.o x.bK).m1 L=(pc x L).getD (s.m1 L):=by
 cases L with
 | inl t =>
  simp only[S.m1,pc,S.aB]
  cases bD:x.o.dst with
  | none=>simp[S.put,Ha]
  | some d =>
   simp only[S.put,dB];by_cases h:t=d
   ·subst h;simp
   rw[dA h,dA (Ne.symm h),Ha];rfl
 | inr r =>
  simp only[S.m1,pc,S.aB,S.x6];rw[Wt];cases sA x.bK.hj r<;>rfl
def jl:List Rec->(Nat->Bool)->Nat->S->S
 | [],_,_,s=>s
 | x::l,f,n,s=>jl l f (n+1) (if f n then s.aB x.o x.bK else s)
theorem NM (L:Nat⊕Nat): ∀(l:List Rec) (f lF:Nat->Bool) (n:Nat) (s b8:S),s.m1 L=b8.m1 L ->
 (∀(i:Nat) x,l[i]? = some x->pc x L≠none->f (n+i)=lF (n+i))->(jl l f n s).m1 L=(jl l lF n b8).m1 L
 | [],_,_,_,_,_,h,_=>h
 | x::l,f,lF,n,s,b8,h,cq=>by
  simp only[jl];refine NM L l f lF (n+1) _ _ ?_ fun i y aV he=>by have:=cq (i+1) y (by simpa using aV) he;rw[show n+1+i=n+(i+1) by omega];exact this
  cases he:pc x L with
  | none =>
   have e : ∀(b:Bool) (s:S),(if b then s.aB x.o x.bK else s).m1 L=s.m1 L:=by
    intro b s;cases b
    ·rfl
    simp[Hb,he]
   rw[e,e,h]
  | some c =>
   have:=cq 0 x rfl (by rw[he];simp);simp only[Nat.add_zero] at this;rw[this];cases lF n
   ·exact h
   simp[Hb,he]
theorem VY (L:Nat⊕Nat): ∀(l:List Rec) (f:Nat->Bool) (n:Nat) (s:S),(∀(i:Nat) x,l[i]? = some x->f (n+i)=true->pc x L=none)->(jl l f n s).m1 L=s.m1 L
 | [],_,_,_,_=>rfl
 | x::l,f,n,s,h=>by
  simp only[jl];rw[VY L l f (n+1) _ fun i y aV cq=>h (i+1) y (by simpa using aV) (by rw[show n+(i+1)=n+1+i by omega];exact cq)];cases cq:f n
  ·rfl
  have:=h 0 x rfl (by simpa using cq);simp[Hb,this]
theorem VZ (L:Nat⊕Nat): ∀(l:List Rec) (f:Nat->Bool) (n j:Nat) (s:S) (x:Rec) (c:aF⊕Option (List aS)),l[j]? = some x->f (n+j)=true->pc x L=some c ->
 (∀(i:Nat) y,l[i]? = some y->j<i->f (n+i)=true->pc y L=none)->(jl l f n s).m1 L=c
 | [],_,_,_,_,_,_,h,_,_,_=>by simp at h
 | y::l,f,n,0,s,x,c,h,cq,he,a2=>by simp at h;subst h;simp only[jl];rw[VY L l f (n+1) _ fun i z cB hfz=>a2 (i+1) z (by simpa using cB) (by omega) (by rw[show n+(i+1)=n+1+i by omega];exact hfz)];simp only[Nat.add_zero] at cq;simp[cq,Hb,he]
 | y::l,f,n,j+1,s,x,c,h,cq,he,a2=>by
  simp only[jl]
  exact VZ L l f (n+1) j _ x c (by simpa using h) (by rw[show n+1+j=n+(j+1) by omega];exact cq) he fun i z cB tV hfz =>
   a2 (i+1) z (by simpa using cB) (by omega) (by rw[show n+(i+1)=n+1+i by omega];exact hfz)
theorem Gs : ∀(l:List Rec) (f lF:Nat->Bool) (n:Nat) (s:S),(∀i,i<l.length->f (n+i)=lF (n+i))->jl l f n s=jl l lF n s
 | [],_,_,_,_,_=>rfl
 | x::l,f,lF,n,s,h=>by simp only[jl];have h0:=h 0 (by simp);simp only[Nat.add_zero] at h0;rw[h0];exact Gs l f lF (n+1) _ fun i aa=>by rw[show n+1+i=n+(i+1) by omega];exact h (i+1) (by simpa using aa)
theorem Vu {P:Program}{N:Nat}{ops:Array Oper}: ∀(l:List Oper) (dc:List (fY×Bool)) (s b8:S) (ba:Nat) (la:List Rec),tD P N ops l dc s ba=some (b8,la)->s.mB ba ->
 la.length=l.length/\b8=jl la (fun _=>true) 0 s/\ ∀(i:Nat) x,la[i]? = some x->l[i]? = some x.o/\x.pk=qQ ops x.o /\
  ba+i∈x.la/\tL P N ops ((jl (la.take i) (fun _=>true) 0 s).only x.pk x.la) (ba+i) x.o x.gM=some x.bK/\(jl (la.take i) (fun _=>true) 0 s).mB (ba+i)
 | [],[],s,b8,ba,la,h,cq=>by simp[tD] at h;obtain⟨rfl,rfl⟩:=h;exact⟨rfl,rfl,fun i x U=>by simp at U⟩
 | o::l,gM::dc,s,b8,ba,la,h,cq=>by
  simp only[tD] at h;split at h;rotate_left
  ·simp at h
  rename_i bK aC;split at h;rotate_left
  ·simp at h
  rename_i s2 Qa h2;simp only[dB,dF] at h;obtain⟨rfl,rfl⟩:=h
  have H4 : ∀(l:List Rec) (n:Nat) (s:S),jl l (fun _=>true) (n+1) s=jl l (fun _=>true) n s:=by
   intro l
   induction l with
   | nil=>intro n s;rfl
   | cons x l ih=>intro n s;simp only[jl];exact ih (n+1) _
  obtain⟨e1,e2,bG⟩:=Vu l dc (s.aB o bK) s2 (ba+1) Qa h2 (JZ (NW aC) cq);refine⟨by simp[e1],?_,fun i x U=> ?_⟩
  ·simp only[jl,if_true];rw[H4];exact e2
  cases i with
  | zero =>
   simp at U;subst U;exact⟨rfl,rfl,by simp,aC,cq⟩
  | succ i =>
   simp at U;obtain⟨f1,f2,f0,f3,f4⟩:=bG i x U;have e:jl ((⟨o,gM,qQ ops o,ba::EH s o gM.1,bK⟩::Qa).take (i+1)) (fun _=>true) 0 s=jl (Qa.take i) (fun _=>true) 0 (s.aB o bK):=(by simp only[List.take_succ_cons,jl,if_true];rw[H4]);rw[e,show ba+(i+1)=ba+1+i by omega];exact⟨by simpa using f1,f2,f0,f3,f4⟩
 | [],_::_,_,_,_,_,h,_=>by simp[tD] at h
 | _::_,[],_,_,_,_,h,_=>by simp[tD] at h
inductive tW (ops:Array Oper):Nat->Nat->Prop
 | one {i j:Nat} {o:Oper} {e:Edge} (ap:ops[j]? = some o) (he:e∈o.after) (a3:Region.binds .any e=true) (h:e.on=i):tW ops i j
 | step {i j k:Nat} {o:Oper} {e:Edge} (ap:ops[j]? = some o) (he:e∈o.after) (a3:Region.binds .any e=true) (h:e.on=k) (a2:tW ops i k):tW ops i j
def Hk:List Oper->List Nat->List Nat
 | [],acc=>acc
 | o::l,acc=>Hk l (acc++[o.after.toList.foldl (fun m e=>if Region.binds .any e then m ||| (1 <<< e.on) ||| (acc.getD e.on 0) else m) 0])
theorem Wu {ops:Array Oper}{j:Nat}{o:Oper}(ap:ops[j]? = some o){acc:List Nat}(Zf:∀k i,(acc.getD k 0).testBit i=true->tW ops i k): ∀(es:List Edge) (m:Nat),(∀e∈es,e∈o.after) ->
 (∀i,m.testBit i=true->tW ops i j)-> ∀i,(es.foldl (fun m e=>if Region.binds .any e then m ||| (1 <<< e.on) ||| (acc.getD e.on 0) else m) m).testBit i=true->tW ops i j
 | [],m,_,hm,i,h=>hm i h
 | e::es,m,jn,hm,i,h=>by
  simp only[List.foldl_cons] at h;refine Wu ap Zf es _ (fun fl oa=>jn fl (by simp[oa])) ?_ i h;intro i aa;split at aa
  ·rename_i a3
   rw[Nat.testBit_or,Nat.testBit_or,Bool.or_eq_true,Bool.or_eq_true] at aa;rcases aa with (aa|aa)|aa
   ·exact hm i aa
   ·rw[Nat.testBit_shiftLeft] at aa
    simp only[dN,decide_eq_true_eq] at aa
    have:i-e.on=0:=by
     have:=aa.2;rcases Nat.eq_zero_or_pos (i-e.on) with h0|h0
     ·exact h0
     rw[Nat.testBit_one_eq_true_iff_self_eq_zero] at this;exact this
    exact .one ap (jn e (by simp)) a3 (by omega)
   exact .step ap (jn e (by simp)) a3 rfl (Zf _ _ aa)
  exact hm i aa
theorem Wv {ops:Array Oper}: ∀(l:List Oper) (acc:List Nat),(∀(i:Nat) o,l[i]? = some o->ops[acc.length+i]? = some o)->(∀k i,(acc.getD k 0).testBit i=true->tW ops i k) ->
 ∀k i,((Hk l acc).getD k 0).testBit i=true->tW ops i k
 | [],acc,_,h,k,i,a2=>h k i a2
 | o::l,acc,aR,h,k,i,a2=>by
  simp only[Hk] at a2;refine Wv l _ (fun i cp e6=>by have:=aR (i+1) cp (by simpa using e6);simp only[dE,dI,dQ];rw[show acc.length+(0+1)+i=acc.length+(i+1) by omega];exact this) ?_ k i a2;intro k i a2;rw[dO,List.getElem?_append] at a2;split at a2
  ·exact h k i (by rw[dO];exact a2)
  rename_i eN;by_cases e:k=acc.length
  ·subst e;simp only[Nat.sub_self,List.getElem?_cons_zero,Option.getD_some] at a2;exact Wu (aR 0 o rfl) h _ 0 (fun e he=>by simpa using he) (fun i aa=>by simp at aa) i a2
  rw[dR (by simp;omega)] at a2;simp at a2
def GX (m:Nat)(y:Rec):List Rec->Nat->Bool
 | [],_=>true
 | x::l,i=>(!sO x y || m.testBit i) && GX m y l (i+1)
def K6 (iY:List Rec):List Rec->List Nat->Nat->Bool
 | [],_,_=>true
 | y::l,gG,j=>GX (gG.headD 0) y (iY.take j) 0 && y.o.after.toList.all (fun e=> !Region.binds .any e || decide (e.on<j)) && K6 iY l gG.tail (j+1)
theorem V0 {m:Nat}{y:Rec}: ∀(l:List Rec) (n:Nat),GX m y l n=true-> ∀(i:Nat) x,l[i]? = some x->sO x y=true->m.testBit (n+i)=true
 | [],_,_,i,x,U,_=>by simp at U
 | z::l,n,h,i,x,U,a0=>by
  simp only[GX,dN,Bool.or_eq_true,Bool.not_eq_true'] at h
  cases i with
  | zero =>
   simp at U;subst U;rcases h.1 with e|e
   ·rw[e] at a0;simp at a0
   simpa using e
  | succ i =>
   have:=V0 l (n+1) h.2 i x (by simpa using U) a0;rw[show n+(i+1)=n+1+i by omega];exact this
theorem W4 {iY:List Rec}: ∀(l:List Rec) (gG:List Nat) (j:Nat),K6 iY l gG j=true-> ∀(i:Nat) y,l[i]? = some y ->
 GX (gG.getD i 0) y (iY.take (j+i)) 0=true/\ ∀e∈y.o.after,Region.binds .any e=true->e.on<j+i
 | [],_,_,_,i,y,aV=>by simp at aV
 | z::l,gG,j,h,i,y,aV=>by
  simp only[K6,dN] at h
  cases i with
  | zero =>
   simp at aV;subst aV;refine⟨?_,fun e he a3=> ?_⟩
   ·have:gG.getD 0 0=gG.headD 0:=(by cases gG<;>rfl);rw[this];exact h.1.1
   have:=List.all_eq_true.1 h.1.2 e (by simpa using he);simpa [a3] using this
  | succ i =>
   obtain⟨e1,e2⟩:=W4 l gG.tail (j+1) h.2 i y (by simpa using aV);refine⟨?_,fun e he a3=> ?_⟩
   ·have:gG.getD (i+1) 0=gG.tail.getD i 0:=(by cases gG<;>rfl);rw[this,show j+(i+1)=j+1+i by omega];exact e1
   have:=e2 e he a3;omega
theorem DF {a b:List Nat}{x:Nat}(bF:x∈a)(a3:x∈b):meets a b=true:=by unfold meets;rw[List.any_eq_true];exact⟨x,bF,by simpa using a3⟩
theorem af6 {x y:Rec}(h:sO x y=false){L:Nat⊕Nat}(U:pc x L≠none):pc y L=none:=by
 simp only[sO,Bool.or_eq_false_iff] at h
 cases L with
 | inl t =>
  simp only[pc] at U ⊢;by_cases h1:x.o.dst=some t
  ·by_cases h2:y.o.dst=some t
   ·have:=DF (a:=x.o.dst.toList) (b:=y.pk++y.o.dst.toList) (x:=t) (by simp[h1]) (by simp[h2]);rw[h.1.1.1] at this;simp at this
   simp[h2]
  simp[h1] at U
 | inr r =>
  simp only[pc] at U ⊢
  cases h2:sA y.bK.hj r with
  | none=>rfl
  | some row =>
   have js:r∈x.bK.hj.map (·.1):=Gr _ _ (by intro e;simp[e] at U);have iw:r∈y.bK.hj.map (·.1):=Gr _ _ (by rw[h2];simp);have:=DF js (b:=y.la++y.bK.hj.map (·.1)) (by simp only[List.mem_append];exact .inr iw);rw[h.1.2] at this;simp at this
def Rec.Lj (x:Rec):Nat⊕Nat->Prop
 | .inl t=>t∈x.pk
 | .inr r=>r∈x.la
theorem af7 {x y:Rec}(h:sO x y=false){L:Nat⊕Nat}(aV:y.Lj L):pc x L=none:=by
 simp only[sO,Bool.or_eq_false_iff] at h
 cases L with
 | inl t =>
  simp only[pc];by_cases h1:x.o.dst=some t
  ·have:=DF (a:=x.o.dst.toList) (b:=y.pk++y.o.dst.toList) (x:=t) (by simp[h1]) (by simp only[List.mem_append];exact .inl aV);rw[h.1.1.1] at this;simp at this
  simp[h1]
 | inr r =>
  simp only[pc]
  cases h2:sA x.bK.hj r with
  | none=>rfl
  | some row =>
   have js:r∈x.bK.hj.map (·.1):=Gr _ _ (by rw[h2];simp);have:=DF js (b:=y.la++y.bK.hj.map (·.1)) (by simp only[List.mem_append];exact .inl aV);rw[h.1.2] at this;simp at this
theorem af8 {x y:Rec}(h:sO x y=false){L:Nat⊕Nat}(U:x.Lj L):pc y L=none:=by
 simp only[sO,Bool.or_eq_false_iff] at h
 cases L with
 | inl t =>
  simp only[pc];by_cases h1:y.o.dst=some t
  ·have:=DF (a:=x.pk) (b:=y.o.dst.toList) (x:=t) U (by simp[h1]);rw[h.1.1.2] at this;simp at this
  simp[h1]
 | inr r =>
  simp only[pc]
  cases h2:sA y.bK.hj r with
  | none=>rfl
  | some row =>
   have js:r∈y.bK.hj.map (·.1):=Gr _ _ (by rw[h2];simp);have:=DF (a:=x.la) U js;rw[h.2] at this;simp at this
theorem agC {s b8:S}{x:Rec}(h:∀L,x.Lj L->s.m1 L=b8.m1 L):s.only x.pk x.la=b8.only x.pk x.la:=by
 apply S.Yh;intro L
 cases L with
 | inl t =>
  simp only[S.m1,S.only];by_cases cl:t∈x.pk
  ·have:=h (.inl t) cl;simp only[S.m1,Sum.inl.injEq] at this;simp[cl,this]
  simp[cl]
 | inr r =>
  simp only[S.m1,S.only];by_cases aj:r∈x.la
  ·have:=h (.inr r) aj;simp only[S.m1,Sum.inr.injEq] at this;simp[aj,this]
  simp[aj]
theorem V1 : ∀(l:List Rec) (i n:Nat) (s:S),jl (l.take i) (fun _=>true) n s=jl l (fun k=>decide (k<n+i)) n s
 | [],i,n,s=>by simp[jl]
 | x::l,0,n,s=>by
  simp only[List.take_zero,jl,Nat.add_zero];rw[dA (by simp)];have:=Gs l (fun k=>decide (k<n)) (fun _=>false) (n+1) s (fun i _=>by simp;omega);rw[this]
  have cB : ∀(l:List Rec) (n:Nat),jl l (fun _=>false) n s=s:=by
   intro l
   induction l with
   | nil=>intro n;rfl
   | cons x l ih=>intro n;simp only[jl,apS,if_false];exact ih _
  rw[cB]
 | x::l,i+1,n,s=>by simp only[List.take_succ_cons,jl,if_true];rw[dw (by simp),V1 l i (n+1)];exact Gs l _ _ (n+1) _ fun j _=>by congr 1;apply propext;omega
def zw (l:List Bool):Nat:=l.countP (fun b=> !b)
section
variable {P:Program} {ops:Array Oper} {Q:Exit->Act->World->Prop} {g:G} {lb:S} {mu:Nat} {iY:List Rec}
theorem J6 {hF:Array Bool}(fU:hF.size=ops.size){i:Nat}:i∈Region.ready .any ops hF↔i<ops.size/\hF.getD i false=false/\ ∀o,ops[i]? = some o-> ∀e∈o.after,Region.binds .any e=true->hF.getD e.on false=true:=by
 unfold Region.ready;rw[List.mem_filter,List.mem_range];constructor
 ·rintro⟨h1,h2⟩
  simp only[dN,Bool.not_eq_true'] at h2;have aR:i<hF.size:=(by omega);refine⟨h1,?_,fun o ap e he a3=> ?_⟩
  ·have:=h2.1;rw[ap3,apU aR] at this ⊢;simpa using this
  have J:=h2.2;rw[ap] at J;simp only[apR,Option.getD_some] at J;rw[Array.all_eq_true_iff_forall_mem] at J;have:=J e he;simpa [a3] using this
 rintro⟨h1,h2,J⟩;refine⟨h1,?_⟩;have aR:i<hF.size:=by omega
 have ap:ops[i]? = some ops[i]:=apU h1;simp only[dN,Bool.not_eq_true'];refine⟨?_,?_⟩
 ·rw[ap3,apU aR] at h2 ⊢;simpa using h2
 rw[ap];simp only[apR,Option.getD_some];rw[Array.all_eq_true_iff_forall_mem];intro e he
 cases a3:Region.binds .any e with
 | false=>rfl
 | true=>simp[J _ ap e he a3]
theorem ahl (hlen:iY.length=ops.size) (HN : ∀(i:Nat) x,iY[i]? = some x->ops[i]? = some x.o/\x.pk=qQ ops x.o/\mu+i∈x.la /\
 tL P g.N ops ((jl (iY.take i) (fun _=>true) 0 lb).only x.pk x.la) (mu+i) x.o x.gM=some x.bK/\(jl (iY.take i) (fun _=>true) 0 lb).mB (mu+i))
 (cW : ∀x∈iY,∀p∈x.bK.gz,p)
 (Lk : ∀(i j:Nat) x y,i<j->iY[i]? = some x->iY[j]? = some y->sO x y=true->tW ops i j)
 (Hj : ∀(i:Nat) o,ops[i]? = some o-> ∀e∈o.after,Region.binds .any e=true->e.on<i)
 (yD : ∀b6 eF bZ,dh g (jl iY (fun _=>true) 0 lb) b6 eF bZ->Q .normal eF bZ) :
 ∀(sP:Nat) (hF:Array Bool) (aG:gE) (a:Act) (w:World),hF.size=ops.size->zw hF.toList<=sP ->
  (∀i j,hF.getD j false=true->tW ops i j->hF.getD i false=true) ->
  dh g (jl iY (fun i=>hF.getD i false) 0 lb) aG a w->wpAny P .any ops Q sP hF a w:=by
 have YT : ∀(hF:Array Bool) (aG:gE) (a:Act) (w:World),hF.size=ops.size->Region.ready .any ops hF=[] ->
  dh g (jl iY (fun i=>hF.getD i false) 0 lb) aG a w->Q .normal a w:=by
  intro hF aG a w fU aj h
  have kG : ∀i,i<ops.size->hF.getD i false=true:=by
   intro i
   induction i using Nat.strongRecOn with
   | _ i ih =>
    intro aa
    cases aR:hF.getD i false with
    | true=>rfl
    | false =>
     exfalso;have:i∈Region.ready .any ops hF:=(J6 fU).2 ⟨aa,aR,fun o ap e he a3=>by have eN:=Hj i o ap e he a3;exact ih e.on eN (by omega)⟩;rw[aj] at this;simp at this
  have e:=Gs iY (fun i=>hF.getD i false) (fun _=>true) 0 lb (fun i aa=>by simpa using kG i (by omega));rw[e] at h;exact yD aG a w h
 have Pe : ∀(hF:Array Bool) (aG:gE) (a:Act) (w:World),hF.size=ops.size->(∀i j,hF.getD j false=true->tW ops i j->hF.getD i false=true) ->
  dh g (jl iY (fun i=>hF.getD i false) 0 lb) aG a w-> ∀i∈Region.ready .any ops hF,∀K:Act->World->Prop,
  (∀b6 eF bZ,dh g (jl iY (fun k=>(hF.setIfInBounds i true).getD k false) 0 lb) b6 eF bZ->K eF bZ)->wpOp P ops Q i K a w:=by
  intro hF aG a w fU Ae h i aa K jh;obtain⟨Ie,LJ,ZN⟩:=(J6 fU).1 aa;have lC:iY[i]? = some (iY[i]'(by omega)):=dz _;generalize iY[i]'(by omega)=x at lC;obtain⟨r1,r2,r0,bc,aM⟩:=HN i x lC
  have Py : ∀j,tW ops j i->hF.getD j false=true:=by
   intro j ay
   cases ay with
   | one ap he a3 sT =>
    rw[r1] at ap;simp at ap;subst ap;rw[<- sT];exact ZN _ r1 _ he a3
   | step ap he a3 sT a2 =>
    rw[r1] at ap;simp at ap;subst ap;have:=ZN _ r1 _ he a3;rw[sT] at this;exact Ae _ _ this a2
  have eN : ∀j y,iY[j]? = some y->j<i->hF.getD j false=false->sO y x=false:=by
   intro j y aV tV cq
   cases a0:sO y x with
   | false=>rfl
   | true=>have:=Py j (Lk j i y x tV aV lC a0);rw[cq] at this;simp at this
  have LK : ∀j y,iY[j]? = some y->i<j->hF.getD j false=true->sO x y=false:=by
   intro j y aV rB cq
   cases a0:sO x y with
   | false=>rfl
   | true=>have:=Ae i j cq (Lk i j x y rB lC aV a0);rw[LJ] at this;simp at this
  have Zg : ∀L,x.Lj L->(jl (iY.take i) (fun _=>true) 0 lb).m1 L=(jl iY (fun i=>hF.getD i false) 0 lb).m1 L:=by
   intro L sl;rw[V1];refine NM L iY _ _ 0 lb lb rfl fun j y aV he=> ?_;simp only[dG];rcases Nat.lt_trichotomy j i with tV|tV|tV
   ·cases cq:hF.getD j false with
    | true=>simpa using tV
    | false=>exact absurd (af7 (eN j y aV tV cq) sl) he
   ·subst tV;simpa using LJ.symm
   cases cq:hF.getD j false with
   | false=>simp;omega
   | true=>exact absurd (af8 (LK j y aV tV cq) sl) he
  have aC:tL P g.N ops (jl iY (fun i=>hF.getD i false) 0 lb) (mu+i) x.o x.gM=some x.bK:=(by rw[agC Zg,r2] at bc;exact NW bc);have fV:(jl iY (fun i=>hF.getD i false) 0 lb).a8 (mu+i)=none:=(by have e1:=Zg (.inr (mu+i)) r0;simp only[S.m1,Sum.inr.injEq] at e1;rw[<- e1];exact aM _ (dD _));refine Vs h fV r1 aC (cW x (dH lC)) fun b6 eF bZ c1=>jh b6 eF bZ ?_
  have yf : ∀k,(hF.setIfInBounds i true).getD k false=if k=i then true else hF.getD k false:=by
   intro k;simp only[ap3,Array.getElem?_setIfInBounds];by_cases e:i=k
   ·subst e;simp[fU,Ie]
   rw[dA e,dA (Ne.symm e)]
  have Ew:(jl iY (fun i=>hF.getD i false) 0 lb).aB x.o x.bK=jl iY (fun k=>(hF.setIfInBounds i true).getD k false) 0 lb:=by
   apply S.Yh;intro L;rw[Hb]
   cases he:pc x L with
   | none =>
    refine NM L iY _ _ 0 lb lb rfl fun j y aV H6=> ?_;simp only[dG,yf];by_cases e:j=i
    ·subst e;rw[lC] at aV;simp at aV;subst aV;exact absurd he H6
    rw[dA e]
   | some c =>
    symm
    refine VZ L iY _ 0 i lb x c lC (by simp[yf]) he fun j y aV rB cq=> ?_;simp only[dG,yf] at cq;rw[dA (by omega)] at cq;exact af6 (LK j y aV rB cq) (by rw[he];simp)
  rw[Ew] at c1;exact c1
 intro sP
 induction sP with
 | zero =>
  intro hF aG a w fU HH Ae h
  have aj:Region.ready .any ops hF=[]:=by
   cases aj:Region.ready .any ops hF with
   | nil=>rfl
   | cons i l =>
    exfalso;have aa:i∈Region.ready .any ops hF:=(by rw[aj];simp);obtain⟨h1,h2,-⟩:=(J6 fU).1 aa;have h0:zw hF.toList=0:=(by omega);unfold zw at h0;rw[List.countP_eq_zero] at h0;have AA:i<hF.size:=(by omega);have:=h0 (hF[i]) (by simp);rw[ap3,apU AA] at h2;simp at h2 this;rw[h2] at this;simp at this
  exact⟨aj,YT hF aG a w fU aj h⟩
 | succ sP ih =>
  intro hF aG a w fU HH Ae h;refine⟨fun aj=>YT hF aG a w fU aj h,fun i aa=> ?_⟩;refine Pe hF aG a w fU Ae h i aa _ fun b6 eF bZ c1=> ?_;obtain⟨h1,h2,J⟩:=(J6 fU).1 aa;have AA:i<hF.size:=by omega
  have yf : ∀k,(hF.setIfInBounds i true).getD k false=if k=i then true else hF.getD k false:=by
   intro k;simp only[ap3,Array.getElem?_setIfInBounds];by_cases e:i=k
   ·subst e;simp[AA]
   rw[dA e,dA (Ne.symm e)]
  refine ih _ b6 eF bZ (by simpa using fU) ?_ ?_ c1
  ·have cq:hF[i]=false:=by
    rw[ap3,apU AA] at h2;simpa using h2
   have a0:zw (hF.setIfInBounds i true).toList+1<=zw hF.toList:=by
    unfold zw;rw[Array.toList_setIfInBounds]
    have key : ∀(l:List Bool) (i:Nat),l[i]? = some false->(l.set i true).countP (fun b=> !b)+1=l.countP (fun b=> !b):=by
     intro l
     induction l with
     | nil=>intro i aa;simp at aa
     | cons b l ih =>
      intro i aa
      cases i with
      | zero=>simp at aa;subst aa;simp
      | succ i =>
       simp at aa;simp only[List.set_cons_succ,List.countP_cons];have:=ih i aa;omega
    rw[key hF.toList i (by rw[Array.getElem?_toList,apU AA,cq])];exact dD _
   omega
  intro k j ay Ig;rw[yf] at ay ⊢;by_cases e:k=i
  ·rw[dw e]
  rw[dA e];by_cases e2:j=i
  ·subst e2
   cases Ig with
   | one ap he a3 sT=>rw[<- sT];exact J _ ap _ he a3
   | step ap he a3 sT a2 =>
    have:=J _ ap _ he a3;rw[sT] at this;exact Ae _ _ this a2
  rw[dA e2] at ay;exact Ae k j ay Ig
end
def GH (P:Program)(N:Nat)(ops:Array Oper)(draw:Bool)(dc:List (fY×Bool))(s:S)(ba:Nat):Option (S×List Prop) :=
 if draw then
  match tD P N ops ops.toList dc s ba with
  | some (b8,iY)=>if K6 iY iY (Hk ops.toList []) 0 then some (b8,iY.flatMap (·.bK.gz)) else none
  | none=>none
 else tC P N ops ops.toList dc s ba
theorem aeE {P:Program}(sQ:P.follows .mixedOrders=true){g:G}{ops:Array Oper}{draw:Bool}{dc:List (fY×Bool)}{s b8:S}{ba:Nat}{ao:List Prop}
 (h:GH P g.N ops draw dc s ba=some (b8,ao)) (bt : ∀p∈ao,p) (cq:s.mB ba) {aG:gE} {a:Act} {w:World} (aj:dh g s aG a w) (id:Nat) {Q:Exit->Act->World->Prop}
 (yD : ∀b6 eF bZ,dh g b8 b6 eF bZ->Q .normal eF bZ):(Code.region id ops draw).wp P Q a w:=by
 unfold GH at h
 cases draw with
 | false =>
  simp only[apS,if_false] at h;refine wp_region ?_;have:=Vd (Q:=Q) (i:=0) ops.toList dc s b8 ba ao (fun j o ap=>by simpa using ap) h bt cq yD aG a w aj;have e:(List.range ops.toList.length).map (0 + ·)=List.range ops.size:=(by simp);rw[e] at this;exact this
 | true =>
  simp only[if_true] at h;split at h;rotate_left
  ·simp at h
  rename_i s2 iY HN;split at h;rotate_left
  ·simp at h
  rename_i Lk;simp only[dB,dF] at h;obtain⟨rfl,rfl⟩:=h;obtain⟨e1,e2,bG⟩:=Vu ops.toList dc s s2 ba iY HN cq;have Py:=Wv (ops:=ops) ops.toList [] (fun i o ap=>by simpa using ap) (fun k i a2=>by simp at a2);have mb:=W4 iY (Hk ops.toList []) 0 Lk;refine wp_region_any sQ ?_
  refine ahl (lb:=s) (mu:=ba) (iY:=iY) (by simpa using e1) (fun i x U=>by
   obtain⟨f1,f2,f0,f3,f4⟩:=bG i x U;exact⟨by simpa using f1,f2,f0,f3,f4⟩) (fun x U p ah=>bt p (by rw[List.mem_flatMap];exact⟨x,U,ah⟩)) (fun i j x y rB U aV a0=> ?_) (fun i o ap e he a3=> ?_) (fun b6 eF bZ c1=>yD b6 eF bZ (by rw[e2];exact c1))
   ops.size _ aG a _ (by simp) ?_ ?_ ?_
  ·obtain⟨f1,-⟩:=mb j y aV;have eT:(iY.take (0+j))[i]? = some x:=(by rw[dT,dw (by omega)];exact U);have:=V0 _ 0 f1 i x eT a0;rw[dG] at this;exact Py j i this
  ·have aa:i<iY.length:=by
    rw[e1];have:=(ap7.1 ap).1;simpa using this
   have U:=dz aa;obtain⟨f1,-⟩:=bG i _ U;have EE:ops[i]? = some (iY[i]).o:=(by simpa using f1);rw[ap] at EE;simp at EE;obtain⟨-,f2⟩:=mb i _ U;have:=f2 e (by rw[<- EE];exact he) a3;omega
  ·unfold zw;have:(Array.replicate ops.size false).toList=List.replicate ops.size false:=(by simp);rw[this,List.countP_replicate];simp
  ·intro i j ay;simp[ap3,Array.getElem?_replicate] at ay;split at ay<;>simp at ay
  have e:jl iY (fun i=>(Array.replicate ops.size false).getD i false) 0 s=s:=by
   rw[Gs iY _ (fun _=>false) 0 s (fun i _=>by simp[ap3,Array.getElem?_replicate];split<;>simp)]
   have cB : ∀(l:List Rec) (n:Nat),jl l (fun _=>false) n s=s:=by
    intro l
    induction l with
    | nil=>intro n;rfl
    | cons x l ih=>intro n;simp only[jl,apS,if_false];exact ih _
   exact cB _ _
  rw[e];exact aj.drew
def EI:List (Nat×aF)->Nat->aF
 | [],_=> .dead
 | (u,v)::l,t=>if t=u then v else EI l t
def dj (env:List (Nat×aF))(rows:List (List aS)):S:={E:=EI env,a8:=fun r=>rows[r]?}
theorem zL (env:List (Nat×aF))(rows:List (List aS)):(dj env rows).mB rows.length:=by intro r aj;simp[dj,aj]
def DT (row:List aS):Prop:= ∀o∈row,j6 o.es
def pd (l:List Nat):iq:=fun j i=>match l[j]? with
 | some r=>some (r,i)
 | none=>none
def EJ (a4:iq)(x de:aF):Prop :=
 (de=x/\x.j7=true)\/(∃r k cb len j i,x = .br r k cb len/\a4 j i=some (r,k)/\de = .br j i cb len)\/de = .dead \/
   ∃r c sz h j ez,x = .kx r c sz h/\(∀k,a4 j (k+ez)=some (r,k+c))/\de = .kx j ez sz h
def sf (a4:iq)(row eM:List aS):Prop :=
 eM.length=row.length/\ ∀(k:Nat) o cp,row[k]? = some o->eM[k]? = some cp->cp.sz=o.sz/\cp.cL=o.cL/\cp.es.length=o.es.length/\(∀e∈cp.es,e.length=o.sz) /\
  ∀(j:Nat) x de,o.es.flatten[j]? = some x->cp.es.flatten[j]? = some de->EJ a4 x de
def tM (a8:Nat->Option (List aS))(b1:Nat->Option Nat)(a4:iq)(bJ:hr->Bool):j2->List aS->Option (List aS×List Prop)
 | .pure,row=>some (row,[DT row])
 | .cE eM,row=>some (eM,[row=eM,DT eM])
 | .bq eM,row=>some (eM,[eM=row.map (k6 b1)])
 | .rx eM,row=>some (eM,[sf a4 row eM])
 | .drop,row=>some (row.map uG,[])
 | .box l,[o]=>match o.es with
  | [c]=>match nM (nL a8 b1 a4 bJ) l c with
   | some (ez,ao)=>some ([{o with es:=[ez]}],ao)
   | none=>none
  | _=>none
 | _,_=>none
def wU (a8:Nat->Option (List aS))(b1:Nat->Option Nat)(a4:iq):List Nat->List j2->Option (List (List aS)×List Prop)
 | [],[]=>some ([],[])
 | r::l,c::c9=>match a8 r with
  | some row=>match tM a8 b1 a4 j8 c row,wU a8 b1 a4 l c9 with
   | some (eM,bX),some (T,aK)=>some (eM::T,bX++aK)
   | _,_=>none
  | none=>none
 | _,_=>none
def Hl (a8:Nat->Option (List aS))(b1:Nat->Option Nat)(a4:iq)(E:Nat->aF):List (Nat×ni)->Option (List (Nat×aF)×List Prop)
 | []=>some ([],[])
 | (t,c)::l=>match pX a8 b1 a4 j8 c (E t),Hl a8 b1 a4 E l with
  | some (v,bX),some (env,aK)=>some ((t,v)::env,bX++aK)
  | _,_=>none
def Hm (a4:List Nat)(m:Nat):Bool:=(List.range m).all fun j=>a4[j]? == some j
def K7 (m:Nat)(s:S)(a4:List Nat)(c9:List j2)(ql:List (Nat×ni)):Option (S×Nat×List Prop) :=
 if decide a4.Nodup && Hm a4 m then
  match wU s.a8 (b4 a4) (pd a4) a4 c9,Hl s.a8 (b4 a4) (pd a4) s.E ql with
  | some (T,bX),some (env,aK)=>some (dj env T,T.length,bX++aK)
  | _,_=>none
 else none
section
variable {P:Program} {g:G} {s:S} {aG:gE} {a:Act} {w:World}
theorem On (eG:jX g s aG w){a4:iq}{b1:Nat->Option Nat}{bJ:hr->Bool}(H:oT s a4 b1 bJ){c:j2}{r:Nat}{l6:Nat->Nat}{row eM:List aS}{ao:List Prop}(ev:∀k o,d8 (some row) k=some o->s.ao r (l6 k)=some o)
 (h:tM s.a8 b1 a4 bJ c row=some (eM,ao)) (bt : ∀p∈ao,p) :
 eM.length=row.length/\ ∀(k:Nat) cp,d8 (some eM) k=some cp-> ∃o,d8 (some row) k=some o/\qP s a4 bJ oc o cp:=by
 have hlen : ∀k o,d8 (some row) k=some o-> ∀e∈o.es,e.length=o.sz:=by
  intro k o ap;have e6:s.ao r (l6 k)=some o:=ev k o ap;have gX:=eG.obj r (l6 k) o e6
  cases ah:aG r (l6 k) with
  | none=>rw[ah] at gX;simp only[kS] at gX;rw[gX];simp
  | some q=>rw[ah] at gX;obtain⟨_,_,_,_,e,_⟩:=gX;exact e
 have wQ:DT row-> ∀(k:Nat) cp,d8 (some row) k=some cp-> ∃o,d8 (some row) k=some o/\qP s a4 bJ oc o cp:=by
  intro ah
  have vJ : ∀k o,d8 (some row) k=some o->o∈row:=by
   intro k o ap;unfold d8 at ap;simp only at ap;split at ap
   ·rename_i cp e6
    split at ap
    ·simp at ap
    simp at ap;subst ap;exact dH e6
   simp at ap
  refine fun k o ap=>⟨o,ap,rfl,.inl rfl,rfl,hlen k o ap,fun j x de U eT=> ?_⟩;rw[U] at eT;simp at eT;subst eT;obtain⟨e,he,tT⟩:=wk U;exact .pure (ah o (vJ k o ap) e he x tT) trivial
 cases c with
 | pure =>
  simp only[tM,dB,dF] at h;obtain⟨rfl,rfl⟩:=h;exact⟨rfl,wQ (bt _ (by simp))⟩
 | cE aO =>
  simp only[tM,dB,dF] at h;obtain⟨rfl,rfl⟩:=h;have e:row=aO:=bt _ (by simp);subst e;exact⟨rfl,wQ (bt _ (by simp))⟩
 | bq aO =>
  simp only[tM,dB,dF] at h;obtain⟨rfl,rfl⟩:=h;have e:aO=row.map (k6 b1):=bt _ (by simp);subst e;exact⟨by simp,YR eG H ev (fun _ _ _ _ _ _ _=>trivial)⟩
 | rx aO =>
  simp only[tM,dB,dF] at h;obtain⟨rfl,rfl⟩:=h;obtain⟨h1,h2⟩:sf a4 row aO:=bt _ (by simp);refine⟨h1,fun k cp e6=> ?_⟩;rw[ml] at e6
  cases o9:aO[k]? with
  | none=>rw[o9] at e6;simp at e6
  | some mf =>
   rw[o9,dx] at e6;split at e6
   ·simp at e6
   rename_i du;simp only[dB] at e6;subst e6;have eN:k<row.length:=(by have:=f6 o9;omega);have a2:=dz eN;obtain⟨q1,q2,bL,cr,dq⟩:=h2 k _ _ a2 o9;have ap:d8 (some row) k=some row[k]:=(by rw[ml,a2,dx,dA (by rw[<- q2];exact du)]);refine⟨_,ap,q1,.inl q2,bL,cr,fun j x de U eT=> ?_⟩;have gX:=eG.obj r (l6 k) _ (ev k _ ap)
   cases ah:aG r (l6 k) with
   | none=>rw[ah] at gX;simp only[kS] at gX;rw[gX] at U;simp at U
   | some xt =>
    obtain⟨b,m⟩:=xt;rw[ah] at gX;obtain⟨c,fG,f1,f2,f3,f4⟩:=gX;obtain⟨u,kA,m0,iN⟩:=f4 j x U;rcases dq j x de U eT with ⟨rfl,aU⟩|⟨r2,j3,cb,len,A9,i2,rfl,hm,rfl⟩|rfl|⟨r2,cx,ZH,h2,A9,kO,rfl,hm,rfl⟩
    ·exact .pure (iN.Ee aU) trivial
    ·exact .br cb len hm (by cases iN<;>assumption)
    ·exact .dead _
    exact .kx h2 hm
 | drop =>
  simp only[tM,dB,dF] at h;obtain⟨rfl,rfl⟩:=h;refine⟨by simp,fun k o ap=> ?_⟩;rw[ml,dK] at ap;cases a2:row[k]? <;> simp[a2,uG] at ap
 | box l =>
  match row,h with
  | [o],h =>
   simp only[tM] at h;split at h;rotate_left
   ·simp at h
   rename_i c jn;split at h;rotate_left
   ·simp at h
   rename_i ez pJ a0;simp only[dB,dF] at h;obtain⟨rfl,rfl⟩:=h;refine⟨rfl,fun k p ah=> ?_⟩;rw[oj] at ah;split at ah;rotate_left
   ·simp at ah
   rename_i xb;obtain⟨rfl,qc⟩:=xb;simp only[dB] at ah;subst ah;have h0:d8 (some [o]) 0=some o:=(by rw[oj];simpa using qc);refine⟨o,h0,?_⟩;have e6:s.ao r (l6 0)=some o:=ev 0 o h0;have gX:=eG.obj r (l6 0) o e6
   cases mn:aG r (l6 0) with
   | none=>rw[mn] at gX;simp only[kS] at gX;rw[jn] at gX;simp at gX
   | some q =>
    obtain⟨b,m⟩:=q;rw[mn] at gX;obtain⟨cO,fG,g1,g2,g3,g4⟩:=gX;have Px:c.length=o.sz:=g3 c (by rw[jn];simp);have lA:o.es.flatten=c:=(by rw[jn];simp);obtain⟨e1,e2⟩:=GG (vs:=(List.range c.length).map fun j=>(cO[j]?).getD undef) eG H (yp _) a0 bt (fun _ _=>trivial) (by simp) (by intro j y u aV hu;have ay:=f6 aV;rw[dK,List.getElem?_range ay] at hu;simp only[apR,dB] at hu;obtain⟨nl,kA,-,iN⟩:=g4 j y (by rw[lA];exact aV);rw[kA] at hu;simp at hu;subst hu;exact iN);refine⟨rfl,.inl rfl,by simp[jn],by simp;omega,fun j x de U eT=> ?_⟩;rw[lA] at U;simp only[apZ,List.flatten_nil,List.append_nil] at eT;exact e2 j x de U eT
  | [],h=>simp[tM] at h
  | _::_::_,h=>simp[tM] at h
theorem Oo (eG:jX g s aG w){a4:iq}{b1:Nat->Option Nat}(H:oT s a4 b1 j8): ∀(l:List Nat) (c9:List j2) (T:List (List aS)) (ao:List Prop),
 wU s.a8 b1 a4 l c9=some (T,ao)->(∀p∈ao,p)->T.length=l.length/\ ∀(j:Nat) eM r,T[j]? = some eM->l[j]? = some r-> ∃row,s.a8 r=some row/\eM.length=row.length /\
  ∀(k:Nat) cp,d8 (some eM) k=some cp-> ∃o,d8 (some row) k=some o/\qP s a4 j8 oc o cp
 | [],[],T,ao,h,_=>by simp[wU] at h;obtain⟨rfl,rfl⟩:=h;exact⟨rfl,fun j eM r ay=>by simp at ay⟩
 | r::l,c::c9,T,ao,h,bt=>by
  simp only[wU] at h;split at h
  ·rename_i row ev
   split at h
   ·rename_i aD bX pj aK h1 h2
    simp only[dB,dF] at h;obtain⟨rfl,rfl⟩:=h;obtain⟨e1,e2⟩:=Oo eG H l c9 pj aK h2 (fun p ah=>bt p (by simp[ah]));have f2:=On (l6:=id) eG H (fun k o ap=>by unfold S.ao;rw[ev];exact ap) h1 (fun p ah=>bt p (by simp[ah]));refine⟨by simp[e1],fun j eM q ay a1=> ?_⟩
    cases j with
    | zero=>simp at ay a1;subst ay;subst a1;exact⟨row,ev,f2.1,f2.2⟩
    | succ j=>simp at ay a1;exact e2 j eM q ay a1
   simp at h
  simp at h
 | [],_::_,_,_,h,_=>by simp[wU] at h
 | _::_,[],_,_,h,_=>by simp[wU] at h
theorem W5 (h:dh g s aG a w){a4:iq}{b1:Nat->Option Nat}(H:oT s a4 b1 j8): ∀(l:List (Nat×ni)) (env:List (Nat×aF)) (ao:List Prop),
 Hl s.a8 b1 a4 s.E l=some (env,ao)->(∀p∈ao,p)-> ∀t,jz s a4 j8 oc (s.E t) (EI env t)
 | [],env,ao,aj,_=>by simp[Hl] at aj;obtain⟨rfl,rfl⟩:=aj;intro t;exact .dead _
 | (u,c)::l,env,ao,aj,bt=>by
  simp only[Hl] at aj;split at aj
  ·rename_i v bX Pz aK h1 h2
   simp only[dB,dF] at aj;obtain⟨rfl,rfl⟩:=aj;have ih:=W5 h H l Pz aK h2 (fun p ah=>bt p (by simp[ah]));intro t;unfold EI;split
   ·rename_i e;subst e;exact GN h.tojX H (yp _) h1 (fun p ah=>bt p (by simp[ah])) trivial (h.env t)
   exact ih t
  simp at aj
theorem zS {l:List Nat}{j i r k:Nat}:pd l j i=some (r,k)↔l[j]? = some r/\i=k:=by unfold pd;cases l[j]? <;> simp
theorem K8 {a4:List Nat}(aU:a4.Nodup):oT s (pd a4) (b4 a4) j8 :=
 ⟨fun _ _ h _=>zS.2 ⟨VR h,rfl⟩,fun _ aj _ _ _ _ _ _ hm=>by rw[VS aU (zS.1 hm).1] at aj;simp at aj⟩
theorem Yi {a4:List Nat} (hnd:a4.Nodup) {T:List (List aS)} (e1:T.length=a4.length) (e2 : ∀(j:Nat) eM r,T[j]? = some eM->a4[j]? = some r-> ∃row,s.a8 r=some row/\eM.length=row.length /\
 ∀(k:Nat) cp,d8 (some eM) k=some cp-> ∃o,d8 (some row) k=some o/\qP s (pd a4) j8 oc o cp):sU s (pd a4) j8 oc (fun j=>T[j]?):=by
 refine⟨?_,?_,?_⟩
 ·intro j i jx fA p e fl;obtain⟨r,k⟩:=p;obtain⟨gh,rfl⟩:=zS.1 e;obtain⟨gi,rfl⟩:=zS.1 fl;exact⟨(List.getElem?_inj (f6 gh) hnd).1 (gh.trans gi.symm),rfl⟩
 ·intro j i cp e6
  have e6:d8 (T[j]?) i=some cp:=e6
  cases ay:T[j]? with
  | none=>rw[ay] at e6;simp[d8] at e6
  | some eM =>
   rw[ay] at e6;have eN:j<a4.length:=(by have:=f6 ay;omega);have a1:=dz eN;obtain⟨row,f1,-,f2⟩:=e2 j eM _ ay a1;obtain⟨o,g1,g2⟩:=f2 i cp e6;exact⟨_,i,o,zS.2 ⟨a1,rfl⟩,by unfold S.ao;rw[f1];exact g1,g2⟩
 intro j i r k e hu;obtain⟨gh,rfl⟩:=zS.1 e;have eN:j<T.length:=by have:=f6 gh;omega
 obtain⟨row,f1,f2,-⟩:=e2 j _ r (dz eN) gh;show i<((T[j]?).getD []).length;rw[dz eN];show i<T[j].length;rw[f2];simpa [S.bg,f1] using hu
theorem W6 {a4:List Nat}{g:G}(eG:jX g s aG w)(uR:Hm a4 g.m=true): ∀j k,g.rA j k->pd a4 j k=some (j,k):=by intro j k ay;unfold Hm at uR;have:=List.all_eq_true.1 uR j (List.mem_range.2 (eG.low j k ay));exact zS.2 ⟨by simpa using this,rfl⟩
theorem aio (h:dh g s aG a w){a4:List Nat}{c9:List j2}{ql:List (Nat×ni)}{b8:S}{n:Nat}{ao:List Prop}(aj:K7 g.m s a4 c9 ql=some (b8,n,ao))(bt:∀p∈ao,p):
 b8.mB n/\dh g b8 (lB aG (pd a4)) a w:=by
 unfold K7 at aj;split at aj
 ·rename_i a0
  simp only[dN,decide_eq_true_eq] at a0;obtain⟨hnd,uR⟩:=a0;split at aj
  ·rename_i T bX env aK h1 h2;simp only[dB,dF] at aj;obtain⟨rfl,rfl,rfl⟩:=aj;refine⟨zL _ _,?_⟩;obtain⟨e1,e2⟩:=Oo h.tojX (K8 hnd) a4 c9 T bX h1 (fun p ah=>bt p (by simp[ah]));refine h.XE (a4:=pd a4) (q:=oc) (Yi hnd e1 e2) (W5 h (K8 hnd) ql env aK h2 (fun p ah=>bt p (by simp[ah]))) (W6 h.tojX uR)
  simp at aj
 simp at aj
def iV (l:List oy):iq:=fun j i=>match l[j]? with
 | some e9=>if i<e9.bD.length then e9.bD[i]? else (match e9.kY with
  | some (r,n)=>some (r,i-e9.bD.length+n)
  | none=>none)
 | none=>none
def w2 (n:Nat):List oy->Nat->Option Nat
 | [],_=>none
 | e9::l,r=>if e9={bD:=[],kY:=some (r,0)} then some n else w2 (n+1) l r
def x8 (r k:Nat)(e9:oy):Bool:=e9.bD.contains (r,k) || (match e9.kY with|some (q,n)=>q == r && decide (n<=k)|none=>false)
def OU (e9:oy):Bool:=decide e9.bD.Nodup && e9.bD.all fun p=>match e9.kY with|some (q,n)=> !(q == p.1 && decide (n<=p.2))|none=>true
def Kj (a b:oy):Bool:=(a.bD.all fun p=> !x8 p.1 p.2 b) && (b.bD.all fun p=> !x8 p.1 p.2 a) && (match a.kY,b.kY with|some (q,_),some (jw,_)=> !(q == jw)|_,_=>true)
def Hc:List oy->Bool
 | []=>true
 | a::l=>OU a && l.all (Kj a) && Hc l
def Yj (l:List oy)(m:Nat):Bool:=(List.range m).all fun j=>l[j]? == some {bD:=[],kY:=some (j,0)}
def Af (a8:Nat->Option (List aS))(b1:Nat->Option Nat)(a4:iq):List (Nat×Nat)->List j2->Option (List aS×List Prop)
 | [],[]=>some ([],[])
 | (r,k)::l,c::c9=>match d8 (a8 r) k with
  | some o=>match tM a8 b1 a4 mT c [o],Af a8 b1 a4 l c9 with
   | some ([cp],bX),some (T,aK)=>some (cp::T,bX++aK)
   | _,_=>none
  | none=>none
 | _,_=>none
def Eg (a8:Nat->Option (List aS))(b1:Nat->Option Nat)(a4:iq):Option (Nat×Nat)->Option j2->Option (List aS×List Prop)
 | none,none=>some ([],[])
 | some (r,n),some c=>match a8 r with
  | some row=>tM a8 b1 a4 mT c (row.drop n)
  | none=>none
 | _,_=>none
def Ag (a8:Nat->Option (List aS))(b1:Nat->Option Nat)(a4:iq):List oy->List (List j2×Option j2)->Option (List (List aS)×List Prop)
 | [],[]=>some ([],[])
 | e9::l,(QT,aaH)::c9=>match Af a8 b1 a4 e9.bD QT,Eg a8 b1 a4 e9.kY aaH,Ag a8 b1 a4 l c9 with
  | some (a,bX),some (b,aK),some (T,eQ)=>some ((a++b)::T,bX++aK++eQ)
  | _,_,_=>none
 | _,_=>none
def Hd (a8:Nat->Option (List aS))(b1:Nat->Option Nat)(a4:iq)(E:Nat->aF):List (Nat×ni)->Option (List (Nat×aF)×List Prop)
 | []=>some ([],[])
 | (t,c)::l=>match pX a8 b1 a4 mT c (E t),Hd a8 b1 a4 E l with
  | some (v,bX),some (env,aK)=>some ((t,v)::env,bX++aK)
  | _,_=>none
def KS (m:Nat)(s:S)(l:List oy)(c9:List (List j2×Option j2))(ql:List (Nat×ni)):Option (S×Nat×List Prop) :=
 if Hc l && Yj l m then
  match Ag s.a8 (w2 0 l) (iV l) l c9,Hd s.a8 (w2 0 l) (iV l) s.E ql with
  | some (T,bX),some (env,aK)=>some (dj env T,T.length,bX++aK)
  | _,_=>none
 else none
theorem OV {l:List oy}{j i r k:Nat}(h:iV l j i=some (r,k)): ∃e9,l[j]? = some e9/\x8 r k e9=true/\(if i<e9.bD.length then e9.bD[i]? = some (r,k) else ∃n,e9.kY=some (r,n)/\k=i-e9.bD.length+n):=by
 unfold iV at h
 cases ay:l[j]? with
 | none=>rw[ay] at h;simp at h
 | some e9 =>
  rw[ay] at h;simp only at h;refine⟨e9,rfl,?_⟩;split at h
  ·rename_i eN;rw[dw eN];exact⟨by unfold x8;simp[dH h],h⟩
  rename_i eN;rw[dA eN];split at h
  ·rename_i fH n cl;simp only[dB,dF] at h;obtain⟨rfl,rfl⟩:=h;exact⟨by unfold x8;simp[cl],n,cl,rfl⟩
  simp at h
theorem Ww : ∀ {l:List oy},Hc l=true->(∀(j:Nat) a,l[j]? = some a->OU a=true)/\ ∀(i j:Nat) a b,i<j->l[i]? = some a->l[j]? = some b->Kj a b=true
 | [],_=>⟨fun j a h=>by simp at h,fun i j a b _ h=>by simp at h⟩
 | c::l,h=>by
  simp only[Hc,dN] at h;obtain⟨⟨h1,h2⟩,J⟩:=h;obtain⟨e1,e2⟩:=Ww J;refine⟨fun j a ay=> ?_,fun i j a b rB bF a3=> ?_⟩
  ·cases j with
   | zero=>simp at ay;subst ay;exact h1
   | succ j=>exact e1 j a (by simpa using ay)
  cases j with
  | zero=>omega
  | succ j =>
   simp at a3
   cases i with
   | zero=>simp at bF;subst bF;exact List.all_eq_true.1 h2 b (dH a3)
   | succ i=>exact e2 i j a b (by omega) (by simpa using bF) a3
theorem Vv {a b:oy}{r k:Nat}(h:Kj a b=true)(bF:x8 r k a=true)(a3:x8 r k b=true):False:=by
 simp only[Kj,dN,List.all_eq_true] at h;obtain⟨⟨h1,h2⟩,J⟩:=h;have ZO:=bF;have pF:=a3;simp only[x8,Bool.or_eq_true,List.contains_iff_mem] at bF a3;rcases bF with bF|bF
 ·have:=h1 _ bF;simp[pF] at this
 rcases a3 with a3|a3
 ·have:=h2 _ a3;simp[ZO] at this
 cases e1:a.kY with
 | none=>rw[e1] at bF;simp at bF
 | some p =>
  obtain⟨q,n⟩:=p
  cases e2:b.kY with
  | none=>rw[e2] at a3;simp at a3
  | some mf =>
   obtain⟨jw,pi⟩:=mf;rw[e1] at bF;rw[e2] at a3;rw[e1,e2] at J;simp at bF a3 J;exact J (bF.1.trans a3.1.symm)
theorem ajk {l:List oy}(aR:Hc l=true): ∀j i jx fA p,iV l j i=some p->iV l jx fA=some p->j=jx/\i=fA:=by
 intro j i jx fA p h c1;obtain⟨r,k⟩:=p;obtain⟨e9,gh,gi,bm⟩:=OV h;obtain⟨LL,iW,jM,pP⟩:=OV c1;obtain⟨e1,e2⟩:=Ww aR
 have ay:j=jx:=by
  rcases Nat.lt_trichotomy j jx with e|e|e
  ·exact(Vv (e2 j jx e9 LL e gh iW) gi jM).elim
  ·exact e
  exact(Vv (e2 jx j LL e9 e iW gh) jM gi).elim
 subst ay;rw[gh] at iW;simp at iW;subst iW;refine⟨rfl,?_⟩;have h1:=e1 j e9 gh;simp only[OU,dN,decide_eq_true_eq,List.all_eq_true] at h1;obtain⟨n1,n2⟩:=h1;split at bm<;>split at pP
 ·exact(List.getElem?_inj (by assumption) n1).1 (bm.trans pP.symm)
 ·obtain⟨n,t1,t2⟩:=pP;have:=n2 _ (dH bm);rw[t1] at this;simp at this;omega
 ·obtain⟨n,t1,t2⟩:=bm;have:=n2 _ (dH pP);rw[t1] at this;simp at this;omega
 obtain⟨n,t1,t2⟩:=bm;obtain⟨pi,ZP,ao1⟩:=pP;rw[t1] at ZP;simp at ZP;omega
theorem Wx : ∀ {l:List oy} {n r j:Nat},w2 n l r=some j->n<=j/\l[j-n]? = some {bD:=[],kY:=some (r,0)}
 | [],_,_,_,h=>by simp[w2] at h
 | e9::l,n,r,j,h=>by
  simp only[w2] at h;split at h
  ·rename_i e;simp at h;subst h;exact⟨dD _,by simp[e]⟩
  obtain⟨h1,h2⟩:=Wx h;exact⟨by omega,by rw[show j-n=(j-(n+1))+1 by omega,List.getElem?_cons_succ];exact h2⟩
theorem Zh (l:List oy):oT s (iV l) (w2 0 l) mT:=by refine⟨fun r j ay k=> ?_,fun _ _ _ _ _ bF=>by simp[mT] at bF⟩;obtain⟨-,h2⟩:=Wx ay;simp only[iV,show l[j]? = some {bD:=[],kY:=some (r,0)} by simpa using h2];simp
theorem W7 (eG:jX g s aG w){a4:iq}{b1:Nat->Option Nat}(H:oT s a4 b1 mT): ∀(l:List (Nat×Nat)) (c9:List j2) (T:List aS) (ao:List Prop),
 Af s.a8 b1 a4 l c9=some (T,ao)->(∀p∈ao,p)->T.length=l.length/\ ∀(i:Nat) cp,d8 (some T) i=some cp-> ∃r k o,l[i]? = some (r,k)/\s.ao r k=some o/\qP s a4 mT oc o cp
 | [],[],T,ao,h,_=>by simp[Af] at h;obtain⟨rfl,rfl⟩:=h;exact⟨rfl,fun i cp ap=>by simp[d8] at ap⟩
 | (r,k)::l,c::c9,T,ao,h,bt=>by
  simp only[Af] at h;split at h;rotate_left
  ·simp at h
  rename_i o ap;split at h;rotate_left
  ·simp at h
  rename_i p bX pj aK h1 h2;simp only[dB,dF] at h;obtain⟨rfl,rfl⟩:=h;obtain⟨e1,e2⟩:=W7 eG H l c9 pj aK h2 (fun p ah=>bt p (by simp[ah]))
  have n8 : ∀ea cp,d8 (some [o]) ea=some cp->cp=o:=fun ea cp a2=>by
   rw[oj] at a2;split at a2
   ·simp at a2;exact a2.symm
   simp at a2
  have e6:s.ao r k=some o:=ap;obtain⟨f0,f1⟩:=On (r:=r) (l6:=fun _=>k) eG H (fun ea cp a2=>by rw[n8 ea cp a2];exact e6) h1 (fun p ah=>bt p (by simp[ah]));refine⟨by simp[e1],fun i cp aa=> ?_⟩
  cases i with
  | zero =>
   have aa:d8 (some [p]) 0=some cp:=(by rw[ml] at aa ⊢;simpa using aa);obtain⟨aK,g1,g2⟩:=f1 0 cp aa;rw[n8 0 aK g1] at g2;exact⟨r,k,o,rfl,e6,g2⟩
  | succ i =>
   have aa:d8 (some pj) i=some cp:=(by rw[ml] at aa ⊢;simpa using aa);obtain⟨fH,ea,aK,g1,g2,g3⟩:=e2 i cp aa;exact⟨fH,ea,aK,by simpa using g1,g2,g3⟩
 | [],_::_,_,_,h,_=>by simp[Af] at h
 | _::_,[],_,_,h,_=>by simp[Af] at h
theorem aip (eG:jX g s aG w){a4:iq}{b1:Nat->Option Nat}(H:oT s a4 b1 mT){kY:Option (Nat×Nat)}{c9:Option j2}{T:List aS}{ao:List Prop}
 (h:Eg s.a8 b1 a4 kY c9=some (T,ao)) (bt : ∀p∈ao,p):(∀r n k,kY=some (r,n)->s.bg r (k+n)->k<T.length) /\
   ∀(i:Nat) cp,d8 (some T) i=some cp-> ∃r n o,kY=some (r,n)/\s.ao r (i+n)=some o/\qP s a4 mT oc o cp:=by
 cases kY with
 | none =>
  cases c9 with
  | none =>
   simp[Eg] at h;obtain⟨rfl,rfl⟩:=h;exact⟨fun r n k e=>by simp at e,fun i cp ap=>by simp[d8] at ap⟩
  | some c=>simp[Eg] at h
 | some p =>
  obtain⟨r,n⟩:=p
  cases c9 with
  | none=>simp[Eg] at h
  | some c =>
   simp only[Eg] at h;split at h
   ·rename_i row ev
    have bD : ∀k o,d8 (some (row.drop n)) k=some o->s.ao r (k+n)=some o:=fun k o ap=>(by unfold S.ao;rw[ev,ml];rw[ml,ap5] at ap;rw[Nat.add_comm];exact ap);obtain⟨f0,f1⟩:=On (r:=r) (l6:=fun k=>k+n) eG H bD h bt;refine⟨fun fH pi k e a2=> ?_,fun i cp ap=> ?_⟩
    ·simp only[dB,dF] at e;obtain⟨rfl,rfl⟩:=e;rw[f0,List.length_drop];simp[S.bg,ev] at a2;omega
    obtain⟨o,g1,g2⟩:=f1 i cp ap;exact⟨r,n,o,rfl,bD i o g1,g2⟩
   simp at h
theorem af9 {a b:List aS}{i:Nat}:d8 (some (a++b)) i=if i<a.length then d8 (some a) i else d8 (some b) (i-a.length):=by rw[ml,ml,ml,List.getElem?_append];split<;>rfl
theorem W8 (eG:jX g s aG w){a4:iq}{b1:Nat->Option Nat}(H:oT s a4 b1 mT): ∀(l:List oy) (c9:List (List j2×Option j2)) (T:List (List aS)) (ao:List Prop),
 Ag s.a8 b1 a4 l c9=some (T,ao)->(∀p∈ao,p)->T.length=l.length/\ ∀(j:Nat) eM e9,T[j]? = some eM->l[j]? = some e9 ->
  (e9.bD.length<=eM.length)/\(∀r n k,e9.kY=some (r,n)->s.bg r (k+n)->k+e9.bD.length<eM.length) /\
  ∀(i:Nat) cp,d8 (some eM) i=some cp-> ∃r k o,(if i<e9.bD.length then e9.bD[i]? = some (r,k) else ∃n,e9.kY=some (r,n)/\k=i-e9.bD.length+n)/\s.ao r k=some o/\qP s a4 mT oc o cp
 | [],[],T,ao,h,_=>by simp[Ag] at h;obtain⟨rfl,rfl⟩:=h;exact⟨rfl,fun j eM e9 ay=>by simp at ay⟩
 | e9::l,(QT,aaH)::c9,T,ao,h,bt=>by
  simp only[Ag] at h;split at h;rotate_left
  ·simp at h
  rename_i a bX b aK pj eQ h1 h2 J;simp only[dB,dF] at h;obtain⟨rfl,rfl⟩:=h;obtain⟨e1,e2⟩:=W8 eG H l c9 pj eQ J (fun p ah=>bt p (by simp[ah]));obtain⟨f1,f2⟩:=W7 eG H e9.bD QT a bX h1 (fun p ah=>bt p (by simp[ah]));obtain⟨g1,g2⟩:=aip eG H h2 (fun p ah=>bt p (by simp[ah]));refine⟨by simp[e1],fun j eM LL ay sV=> ?_⟩
  cases j with
  | zero =>
   simp at ay sV;subst ay;subst sV;refine⟨by simp[f1],fun r n k e a2=> ?_,fun i cp ap=> ?_⟩
   ·have:=g1 r n k e a2;simp[f1];omega
   rw[af9,f1] at ap;split at ap
   ·rename_i eN;obtain⟨r,k,o,q1,q2,bL⟩:=f2 i cp ap;exact⟨r,k,o,by rw[dw eN];exact q1,q2,bL⟩
   rename_i eN;obtain⟨r,n,o,q1,q2,bL⟩:=g2 _ cp ap;exact⟨r,_,o,by rw[dA eN];exact⟨n,q1,rfl⟩,q2,bL⟩
  | succ j=>simp at ay sV;exact e2 j eM LL ay sV
 | [],_::_,_,_,h,_=>by simp[Ag] at h
 | _::_,[],_,_,h,_=>by simp[Ag] at h
theorem Wy (h:dh g s aG a w){a4:iq}{b1:Nat->Option Nat}(H:oT s a4 b1 mT): ∀(l:List (Nat×ni)) (env:List (Nat×aF)) (ao:List Prop),
 Hd s.a8 b1 a4 s.E l=some (env,ao)->(∀p∈ao,p)-> ∀t,jz s a4 mT oc (s.E t) (EI env t)
 | [],env,ao,aj,_=>by simp[Hd] at aj;obtain⟨rfl,rfl⟩:=aj;intro t;exact .dead _
 | (u,c)::l,env,ao,aj,bt=>by
  simp only[Hd] at aj;split at aj
  ·rename_i v bX Pz aK h1 h2
   simp only[dB,dF] at aj;obtain⟨rfl,rfl⟩:=aj;have ih:=Wy h H l Pz aK h2 (fun p ah=>bt p (by simp[ah]));intro t;unfold EI;split
   ·rename_i e;subst e;exact GN h.tojX H (yp _) h1 (fun p ah=>bt p (by simp[ah])) trivial (h.env t)
   exact ih t
  simp at aj
theorem jz.wide {a4:iq}{bJ ZQ:hr->Bool}{q:aF->Prop}(h:∀k,bJ k=true->ZQ k=true){x de:aF}(bM:jz s a4 bJ q x de):jz s a4 ZQ q x de:=by
 induction bM with
 | dead x=>exact .dead x
 | pure ah a1=>exact .pure ah a1
 | fg sz=>exact .fg sz
 | kd sz=>exact .kd sz
 | K3 sz=>exact .K3 sz
 | f8 h ih=>exact .f8 ih
 | ref i off hm hu=>exact .ref i off hm hu
 | br cb len hm hu=>exact .br cb len hm hu
 | o0 r c sz=>exact .o0 r c sz
 | p7 h ih=>exact .p7 ih
 | kx h hm=>exact .kx h hm
 | fX i off ap bF aj di ah hle aR gQ ih=>exact .fX i off ap (h _ bF) aj di ah hle aR ih
 | isl ap bF aj iT ah hle aR gQ ih=>exact .isl ap (h _ bF) aj iT ah hle aR ih
 | agg aR gQ ih=>exact .agg aR ih
 | dd aR gQ ih=>exact .dd aR ih
 | fn aR gQ ih=>exact .fn aR ih
theorem ahm (h:dh g s aG a w){l:List oy}{c9:List (List j2×Option j2)}{ql:List (Nat×ni)}{b8:S}{n:Nat}{ao:List Prop}(aj:KS g.m s l c9 ql=some (b8,n,ao))(bt:∀p∈ao,p):
 b8.mB n/\dh g b8 (lB aG (iV l)) a w:=by
 unfold KS at aj;split at aj;rotate_left
 ·simp at aj
 rename_i a0;simp only[dN] at a0;obtain⟨mb,uR⟩:=a0;split at aj;rotate_left
 ·simp at aj
 rename_i T bX env aK h1 h2;simp only[dB,dF] at aj;obtain⟨rfl,rfl,rfl⟩:=aj;refine⟨zL _ _,?_⟩;obtain⟨e1,e2⟩:=W8 h.tojX (Zh l) l c9 T bX h1 (fun p ah=>bt p (by simp[ah]));have e8:=Wy h (Zh l) ql env aK h2 (fun p ah=>bt p (by simp[ah]));refine h.XE (a4:=iV l) (q:=oc) ⟨ajk mb,?_,?_⟩ (fun t=>(e8 t).wide fun _ bF=>by simp[mT] at bF) ?_
 ·intro j i cp e6
  have e6:d8 (T[j]?) i=some cp:=e6
  cases ay:T[j]? with
  | none=>rw[ay] at e6;simp[d8] at e6
  | some eM =>
   rw[ay] at e6;have eN:j<l.length:=(by have:=f6 ay;omega);have a1:=dz eN;obtain⟨r,k,o,g1,g2,g3⟩:=(e2 j eM _ ay a1).2.2 i cp e6;refine⟨r,k,o,?_,g2,⟨g3.sz,g3.cL,g3.len,g3.each,fun j x de U eT=>(g3.at_ j x de U eT).wide fun _ bF=>by simp[mT] at bF⟩⟩;simp only[iV,a1];split at g1
   ·rename_i aR;rw[dw aR];exact g1
   rename_i aR;rw[dA aR];obtain⟨n,t1,t2⟩:=g1;rw[t1,t2]
 ·intro j i r k e hu
  obtain⟨e9,gh,gi,bm⟩:=OV e;have eN:j<T.length:=(by have:=f6 gh;omega);obtain⟨iW,jM,-⟩:=e2 j _ e9 (dz eN) gh;show i<((T[j]?).getD []).length;rw[dz eN];show i<T[j].length;split at bm
  ·omega
  rename_i aR;obtain⟨n,t1,t2⟩:=bm;have:=jM r n (i-e9.bD.length) t1 (by rw[<- t2];exact hu);omega
 intro j k ay;unfold Yj at uR;have:=List.all_eq_true.1 uR j (List.mem_range.2 (h.low j k ay));simp only[beq_iff_eq] at this;simp only[iV,this];simp
theorem dh.more (h:dh g s aG a w){ba:Nat}{row:List aS}(fV:s.a8 ba=none)(ev:∀o∈row,o.es=[]):
 ∃b6,(∀k,b6 ba k=none)/\dh g (s.setRow ba row) b6 a w:=by
 let s2:=s.setRow ba row
 let b6:gE:=fun q k=>if q=ba then none else aG q k
 have di : ∀q k,s.bg q k->q≠ba:=by rintro q k a1 rfl;exact C8 fV k a1
 have dv : ∀q,q≠ba->s2.a8 q=s.a8 q:=fun q a1=>by simp[s2,S.setRow,a1]
 have al6:s2.a8 ba=some row:=by simp[s2,S.setRow]
 have Pt : ∀k o,s2.ao ba k=some o->o.es=[]:=by
  intro k o ap;unfold S.ao at ap;rw[al6] at ap;unfold d8 at ap;simp only at ap;split at ap
  ·rename_i cp e6
   split at ap
   ·simp at ap
   simp at ap;subst ap;exact ev _ (dH e6)
  simp at ap
 have bt : ∀q k,q≠ba->s2.ao q k=s.ao q k:=fun q k a1=>by unfold S.ao;rw[dv q a1]
 have nt : ∀q k,q≠ba->s2.bn b6 q k=s.bn aG q k:=fun q k a1=>by simp[S.bn,bt q k a1,b6,a1]
 have da:Step g s aG w s2 b6 w:=⟨fun q k a1=>by unfold S.bg;rw[dv q (di q k a1)];exact a1,fun q k a1=> .inl (nt q k (di q k a1)),fun b aR=>by
  obtain⟨q,k,o,m,h1,h2,J⟩:=aR;by_cases e:q=ba
  ·subst e;simp[b6] at J
  rw[bt q k e] at h1;simp only[b6,dA e] at J;exact .inl ⟨q,k,o,m,h1,h2,J⟩,fun _ _ _=>rfl,dD _⟩
 have eG:jX g s2 b6 w:=by
  refine⟨?_,?_,?_,h.iC,h.mlt,h.pE,?_,h.low⟩
  ·intro q k o ap
   by_cases e:q=ba
   ·subst e;simp only[b6,if_true,kS];exact Pt k o ap
   rw[bt q k e] at ap;have:=da.obj (fun b m _=>rfl) (h.obj q k o ap);simpa [b6,e] using this
  ·intro q k o jw ea cp b m aH h1 h2 J ak;have e:q≠ba:=(by rintro rfl;simp[b6] at J);have fl:jw≠ba:=(by rintro rfl;simp[b6] at ak);rw[bt q k e] at h1;rw[bt jw ea fl] at h2;simp only[b6,dA e] at J;simp only[b6,dA fl] at ak;exact h.inj q k o jw ea cp b m aH h1 h2 J ak
  ·intro q k o b m h1 h2;have e:q≠ba:=(by rintro rfl;simp[b6] at h2);rw[bt q k e] at h1;simp only[b6,dA e] at h2;exact h.own q k o b m h1 h2
  intro j k ay;obtain⟨e1,e2⟩:=h.stay j k ay;refine⟨by unfold S.bg;rw[dv j (di j k e1)];exact e1,?_⟩;rw[nt j k (di j k e1)];exact e2
 exact⟨b6,fun k=>by simp[b6],{tojX:=eG,env:=fun u=>da.rel (h.env u),defers:=h.defers,lz:=h.lz}⟩
theorem dh.aj5 (h:dh g s aG a w){r vQ:Nat}{cL:hr}{c ez:List aF}(ev:s.a8 r=some [⟨vQ,[c],cL⟩])(aR:ez.length=c.length)
 (a0 : ∀(j:Nat) x de,c[j]? = some x->ez[j]? = some de-> ∀v,Rel w (s.ok g aG w) s.bg (s.bn aG) x v->Rel w (s.ok g aG w) s.bg (s.bn aG) de v) :
 dh g (s.setRow r [⟨vQ,[ez],cL⟩]) aG a w:=by
 let s2:=s.setRow r [⟨vQ,[ez],cL⟩]
 have bt : ∀q k,s2.ao q k=if q=r then (s.ao q k).map (fun o=>{o with es:=[ez]}) else s.ao q k:=by
  intro q k;show (s.setRow r _).ao q k=_;rw[nI];split
  ·rename_i e;subst e;unfold S.ao;rw[ev,oj,oj];split<;>rfl
  rfl
 have k5:s2.bg=s.bg:=by
  funext q k;show (s.setRow r _).bg q k=_;refine propext ((ps s r _ q k).trans ?_);split
  ·rename_i e;subst e;simp[S.bg,ev]
  rfl
 have nt:s2.bn aG=s.bn aG:=by
  funext q k;unfold S.bn;rw[bt];split
  ·cases s.ao q k<;>rfl
  rfl
 have uS:s2.n5 aG=s.n5 aG:=by
  funext b;unfold S.n5;refine propext ⟨fun ⟨q,k,o,m,h1,h2,J⟩=> ?_,fun ⟨q,k,o,m,h1,h2,J⟩=> ?_⟩
  ·rw[bt] at h1
   split at h1
   ·rw[dP] at h1;obtain⟨cp,ak,rfl⟩:=h1;exact⟨q,k,cp,m,ak,h2,J⟩
   exact⟨q,k,o,m,h1,h2,J⟩
  by_cases e:q=r
  ·exact⟨q,k,{o with es:=[ez]},m,by rw[bt,dw e,h1];rfl,h2,J⟩
  exact⟨q,k,o,m,by rw[bt,dA e];exact h1,h2,J⟩
 have mb:s2.ok g aG w=s.ok g aG w:=by funext b;unfold S.ok;rw[uS]
 have eG:jX g s2 aG w:=by
  refine⟨?_,?_,?_,h.iC,h.mlt,h.pE,?_,h.low⟩
  ·intro q k o ap
   rw[mb,k5,nt];rw[bt] at ap;split at ap;rotate_left
   ·exact h.obj q k o ap
   rename_i e;subst e;rw[dP] at ap;obtain⟨cp,ak,rfl⟩:=ap;have ax:=h.obj _ k cp ak;have aN:cp=⟨vQ,[c],cL⟩:=(by unfold S.ao at ak;rw[ev,oj] at ak;split at ak<;>simp at ak;exact ak.symm);subst aN
   cases ah:aG q k with
   | none=>rw[ah] at ax;simp[kS] at ax
   | some p =>
    rw[ah] at ax;obtain⟨anq,fG,g1,g2,g3,g4⟩:=ax;refine⟨anq,fG,g1,g2,fun e he=> ?_,fun j x U=> ?_⟩
    ·simp at he;subst he;rw[aR];exact g3 c (by simp)
    simp at U;have ay:=f6 U;have kI:=dz (show j<c.length by omega);obtain⟨v,v1,v2,v3⟩:=g4 j c[j] (by simp);exact⟨v,v1,v2,a0 j _ _ kI U v v3⟩
  ·intro q k o jw ea cp b m aH h1 h2 J ak
   have e1 : ∃o,s.ao q k=some o:=by
    rw[bt] at h1;split at h1
    ·rw[dP] at h1;obtain⟨cp,ax,-⟩:=h1;exact⟨cp,ax⟩
    exact⟨o,h1⟩
   have e2 : ∃o,s.ao jw ea=some o:=by
    rw[bt] at h2;split at h2
    ·rw[dP] at h2;obtain⟨cp,ax,-⟩:=h2;exact⟨cp,ax⟩
    exact⟨cp,h2⟩
   obtain⟨bX,e1⟩:=e1;obtain⟨aK,e2⟩:=e2;exact h.inj q k bX jw ea aK b m aH e1 e2 J ak
  ·intro q k o b m h1 h2
   rw[bt] at h1;split at h1
   ·rw[dP] at h1;obtain⟨cp,ax,-⟩:=h1;exact h.own q k cp b m ax h2
   exact h.own q k o b m h1 h2
  intro j k ay;rw[k5,nt];exact h.stay j k ay
 refine {tojX:=eG,env:=fun u=> ?_,defers:=h.defers,lz:=h.lz};have:=h.env u;rw[mb,k5,nt];exact this
theorem dh.akS (h:dh g s aG a w){ba r j vQ sz:Nat}{cL:hr}{c:List aF}(fV:s.a8 ba=none)(ev:s.a8 r=some [⟨vQ,[c],cL⟩])(ay:c[j]? = some .fg):
 ∃b6,dh g ((s.setRow ba [⟨sz,[],.live⟩]).setRow r [⟨vQ,[c.set j (.br ba 0 0 0)],cL⟩]) b6 a w:=by
 obtain⟨b6,aU,c1⟩:=h.more (row:=[⟨sz,[],.live⟩]) fV (fun o ap=>by simp at ap;subst ap;rfl);have di:r≠ba:=by rintro rfl;rw[ev] at fV;simp at fV
 refine⟨b6,c1.aj5 (c:=c) (by simp[S.setRow,di,ev]) (by simp) (fun i x de U eT v bh=> ?_)⟩;rw[apT] at eT;split at eT
 ·rename_i e;subst e
  split at eT
  ·simp at eT;subst eT;rw[ay] at U;simp at U;subst U;rw[bh.sx];refine .pT (sz:=sz) (by simp[S.bg,S.setRow]) ?_;unfold S.bn S.ao;rw[show (s.setRow ba [⟨sz,[],.live⟩]).a8 ba=some [⟨sz,[],.live⟩] by simp[S.setRow],oj];simp[aU]
  simp at eT
 rw[U] at eT;simp at eT;subst eT;exact bh
theorem dh.w3 (h:dh g s aG a w){ba t sz:Nat}(fV:s.a8 ba=none)(cl:s.E t = .fg):
 ∃b6,dh g {E:=fun u=>if u=t then .br ba 0 0 0 else s.E u,a8:=(s.setRow ba [⟨sz,[],.live⟩]).a8} b6 a w:=by
 obtain⟨b6,aU,c1⟩:=h.more (row:=[⟨sz,[],.live⟩]) fV (fun o ap=>by simp at ap;subst ap;rfl);refine⟨b6,{tojX:=c1.tojX.congr rfl,env:=fun u=> ?_,defers:=c1.defers,lz:=c1.lz}⟩;have e1 : ∀yE:S,yE.a8=(s.setRow ba [⟨sz,[],.live⟩]).a8->Rel w ((s.setRow ba [⟨sz,[],.live⟩]).ok g b6 w) (s.setRow ba [⟨sz,[],.live⟩]).bg ((s.setRow ba [⟨sz,[],.live⟩]).bn b6)=Rel w (yE.ok g b6 w) yE.bg (yE.bn b6):=fun yE e=>by rw[GL e,DI e,DJ e]
 refine Eq.mp (congrFun (congrFun (e1 {E:=fun u=>if u=t then .br ba 0 0 0 else s.E u,a8:=(s.setRow ba [⟨sz,[],.live⟩]).a8} rfl) _) _) ?_;show Rel _ _ _ _ (if u=t then .br ba 0 0 0 else s.E u) _;split
 ·rename_i e;subst e;have h0:=h.env u;rw[cl] at h0;rw[h0.sx];refine .pT (sz:=sz) (by simp[S.bg,S.setRow]) ?_;unfold S.bn S.ao;rw[show (s.setRow ba [⟨sz,[],.live⟩]).a8 ba=some [⟨sz,[],.live⟩] by simp[S.setRow],oj];simp[aU]
 exact c1.env u
end
def k9 (P:Program)(N m:Nat)(c:Code)(e:Exit)(s b8:S):Prop :=
 ∀(g:G) aG a w,g.N=N->g.m=m->dh g s aG a w->c.wp P (fun fl eF bZ=>fl=e/\ ∃b6,dh g b8 b6 eF bZ) a w
inductive Bb where
 | normal
 | exit (id:Nat)
 | ret
def Bb.x:Bb->Exit
 | .normal=> .normal
 | .exit id=> .exit id
 | .ret=> .ret
inductive bE where
 | ai (dc:List (fY×Bool))
 | ab (b:Bool)
 | aT (a4:List Nat) (c9:List j2) (ql:List (Nat×ni))
 | xc (l:List oy) (c9:List (List j2×Option j2)) (ql:List (Nat×ni))
 | ky (r:Nat)
 | w3 (t sz:Nat)
 | tX (r j sz:Nat)
 | Ih
 | sub (e:Bb) (env:List (Nat×aF)) (rows:List (List aS))
structure aaI where
 e:Exit
 s:S
 ba:Nat
 tape:List bE
 gz:List Prop
def om (m:Nat):List bE->S->Nat->Option (List bE×S×Nat×List Prop)
 | .aT a4 c9 ql::tape,s,ba=>match K7 m s a4 c9 ql with
  | some (s1,n1,bX)=>match om m tape s1 n1 with
   | some (t2,s2,n2,aK)=>some (t2,s2,n2,bX++aK)
   | none=>none
  | none=>none
 | .xc l c9 ql::tape,s,ba=>match KS m s l c9 ql with
  | some (s1,n1,bX)=>match om m tape s1 n1 with
   | some (t2,s2,n2,aK)=>some (t2,s2,n2,bX++aK)
   | none=>none
  | none=>none
 | .ky r::tape,s,ba=>match s.a8 r with
  | some row=>om m tape (s.setRow r (n6 row)) ba
  | none=>none
 | .w3 t sz::tape,s,ba=>match s.E t with
  | .fg=>om m tape {E:=fun u=>if u=t then .br ba 0 0 0 else s.E u,a8:=(s.setRow ba [⟨sz,[],.live⟩]).a8} (ba+1)
  | _=>none
 | .tX r j sz::tape,s,ba=>match s.a8 r with
  | some [⟨vQ,[c],cL⟩]=>match c[j]? with
   | some .fg=>om m tape ((s.setRow ba [⟨sz,[],.live⟩]).setRow r [⟨vQ,[c.set j (.br ba 0 0 0)],cL⟩]) (ba+1)
   | _=>none
  | _=>none
 | .Ih::tape,s,ba=>om m tape (s.setRow ba []) (ba+1)
 | tape,s,ba=>some (tape,s,ba,[])
def o1 (P:Program)(N m:Nat):Code->List bE->S->Nat->Option aaI
 | .skip,tape,s,ba=>some ⟨.normal,s,ba,tape,[]⟩
 | .label _,tape,s,ba=>some ⟨.normal,s,ba,tape,[]⟩
 | .exit id,tape,s,ba=>some ⟨.exit id,s,ba,tape,[]⟩
 | .ret,tape,s,ba=>some ⟨.ret,s,ba,tape,[]⟩
 | .seq x y,tape,s,ba=>match o1 P N m x tape s ba with
  | some ⟨.normal,s1,n1,t1,bX⟩=>match o1 P N m y t1 s1 n1 with
   | some ⟨e2,s2,n2,t2,aK⟩=>some ⟨e2,s2,n2,t2,bX++aK⟩
   | none=>none
  | some r=>some r
  | none=>none
 | .block id c,tape,s,ba=>match o1 P N m c tape s ba with
  | some ⟨.exit AL,s1,n1,t1,bX⟩=>some ⟨if AL=id then .normal else .exit AL,s1,n1,t1,bX⟩
  | r=>r
 | .scope c,tape,s,ba=>o1 P N m c tape s ba
 | .region _ ops draw,tape,s,ba=>match om m tape s ba with
  | some (.ai dc::t1,s1,n1,bX)=>match GH P N ops draw dc s1 n1 with
   | some (s2,aK)=>some ⟨.normal,s2,n1+ops.size,t1,bX++aK⟩
   | none=>none
  | _=>none
 | .cond x c d,tape,s,ba=>match om m tape s ba with
  | some (.sub e env rows::t1,s1,_,bX)=>some ⟨e.x,dj env rows,rows.length,t1,bX++[k9 P N m (.cond x c d) e.x s1 (dj env rows)]⟩
  | some (.ab b::t1,s1,n1,bX)=>match fN s1.E x with
   | .b v=>match b with
    | true=>match o1 P N m c t1 s1 n1 with
     | some ⟨e2,s2,n2,t2,aK⟩=>some ⟨e2,s2,n2,t2,bX++(v=true)::aK⟩
     | none=>none
    | false=>match o1 P N m d t1 s1 n1 with
     | some ⟨e2,s2,n2,t2,aK⟩=>some ⟨e2,s2,n2,t2,bX++(v=false)::aK⟩
     | none=>none
   | _=>none
  | _=>none
 | .loop c,tape,s,ba=>match om m tape s ba with
  | some (.sub e env rows::t1,s1,_,bX)=>some ⟨e.x,dj env rows,rows.length,t1,bX++[k9 P N m (.loop c) e.x s1 (dj env rows)]⟩
  | _=>none
 | _,_,_,_=>none
section
variable {P:Program} {N m:Nat}
theorem k9.intro {c:Code}{e:Exit}{s b8:S}(h:∀(g:G) aG a w,g.N=N->g.m=m->dh g s aG a w->c.wp P (fun fl eF bZ=>fl=e/\ ∃b6,dh g b8 b6 eF bZ) a w):k9 P N m c e s b8:=h
theorem k9.seq {x y:Code}{e:Exit}{s s1 s2:S}(h1:k9 P N m x .normal s s1)(h2:k9 P N m y e s1 s2):k9 P N m (.seq x y) e s s2:=by intro g aG a w hg hm aj;refine wp_seq (wp_mono (h1 g aG a w hg hm aj) fun fl eF bZ a1=> ?_);obtain⟨rfl,b6,jo⟩:=a1;exact h2 g b6 eF bZ hg hm jo
theorem k9.ajl {x y:Code}{e:Exit}{s s1:S}(h1:k9 P N m x e s s1)(he:e≠ .normal):k9 P N m (.seq x y) e s s1:=by intro g aG a w hg hm aj;refine wp_seq (wp_mono (h1 g aG a w hg hm aj) fun fl eF bZ a1=> ?_);obtain⟨rfl,jo⟩:=a1;cases fl<;>first|exact absurd rfl he|exact⟨rfl,jo⟩
theorem k9.agD {c:Code}{id AL:Nat}{s s1:S}(h1:k9 P N m c (.exit AL) s s1):k9 P N m (.block id c) (if AL=id then .normal else .exit AL) s s1:=by
 intro g aG a w hg hm aj;refine wp_block (wp_mono (h1 g aG a w hg hm aj) fun fl eF bZ a1=> ?_);obtain⟨rfl,jo⟩:=a1;simp only[Exit.inBlock];split
 ·exact⟨rfl,jo⟩
 exact⟨rfl,jo⟩
theorem k9.block {c:Code}{id:Nat}{e:Exit}{s s1:S}(h1:k9 P N m c e s s1)(he:∀i,e≠ .exit i):k9 P N m (.block id c) e s s1:=by intro g aG a w hg hm aj;refine wp_block (wp_mono (h1 g aG a w hg hm aj) fun fl eF bZ a1=> ?_);obtain⟨rfl,jo⟩:=a1;cases fl<;>first|exact absurd rfl (he _)|exact⟨rfl,jo⟩
theorem k9.scope {c:Code}{e:Exit}{s s1:S}(h1:k9 P N m c e s s1)(he:∀l,e≠ .goto l):k9 P N m (.scope c) e s s1:=by intro g aG a w hg hm aj;refine wp_scope_straight (wp_mono (h1 g aG a w hg hm aj) fun fl eF bZ a1=> ?_);obtain⟨rfl,jo⟩:=a1;cases fl<;>first|exact absurd rfl (he _)|exact⟨rfl,jo⟩
theorem Vw {ops:Array Oper}: ∀(l:List Oper) (dc:List (fY×Bool)) (s b8:S) (ba:Nat) (ao:List Prop),
 tC P N ops l dc s ba=some (b8,ao)->s.mB ba->b8.mB (ba+l.length)
 | [],[],s,b8,ba,ao,h,cq=>by simp[tC] at h;obtain⟨rfl,rfl⟩:=h;simpa using cq
 | o::l,gM::dc,s,b8,ba,ao,h,cq=>by
  simp only[tC] at h;split at h
  ·rename_i bK aC
   split at h
   ·rename_i s2 Ic h2;simp only[dB,dF] at h;obtain⟨rfl,rfl⟩:=h;have:=Vw l dc (s.aB o bK) s2 (ba+1) Ic h2 (JZ aC cq);rw[dI];rw[show ba+(l.length+1)=ba+1+l.length by omega];exact this
   simp at h
  simp at h
 | [],_::_,_,_,_,_,h,_=>by simp[tC] at h
 | _::_,[],_,_,_,_,h,_=>by simp[tC] at h
theorem Vx {ops:Array Oper}: ∀(l:List Oper) (dc:List (fY×Bool)) (s b8:S) (ba:Nat) (la:List Rec),
 tD P N ops l dc s ba=some (b8,la)->s.mB ba->b8.mB (ba+l.length)
 | [],[],s,b8,ba,ao,h,cq=>by simp[tD] at h;obtain⟨rfl,rfl⟩:=h;simpa using cq
 | o::l,gM::dc,s,b8,ba,ao,h,cq=>by
  simp only[tD] at h;split at h
  ·rename_i bK aC
   split at h
   ·rename_i s2 Ic h2;simp only[dB,dF] at h;obtain⟨rfl,rfl⟩:=h;have:=Vx l dc (s.aB o bK) s2 (ba+1) Ic h2 (JZ (NW aC) cq);rw[dI];rw[show ba+(l.length+1)=ba+1+l.length by omega];exact this
   simp at h
  simp at h
 | [],_::_,_,_,_,_,h,_=>by simp[tD] at h
 | _::_,[],_,_,_,_,h,_=>by simp[tD] at h
theorem ae2 {ops:Array Oper}{draw:Bool}{dc:List (fY×Bool)}{s b8:S}{ba:Nat}{ao:List Prop}
 (h:GH P N ops draw dc s ba=some (b8,ao)) (cq:s.mB ba):b8.mB (ba+ops.size):=by
 unfold GH at h;split at h
 ·split at h
  ·rename_i s2 iY HN
   split at h
   ·simp only[dB,dF] at h;obtain⟨rfl,rfl⟩:=h;simpa using Vx _ _ _ _ _ _ HN cq
   simp at h
  simp at h
 simpa using Vw _ _ _ _ _ _ h cq
theorem aga {s:S}{n r:Nat}{row:List aS}(h:s.mB n)(aj:r<n):(s.setRow r row).mB n:=by
 intro q a1;have:q≠r:=by omega
 simp[S.setRow,this,h q a1]
theorem Dk : ∀(tape:List bE) (s:S) (ba:Nat) (cI:List bE) (b8:S) (pi:Nat) (ao:List Prop),om m tape s ba=some (cI,b8,pi,ao)->(∀p∈ao,p)->s.mB ba ->
 b8.mB pi/\ ∀(g:G) aG a w,g.m=m->dh g s aG a w-> ∃b6,dh g b8 b6 a w:=by
 intro tape
 induction tape with
 | nil =>
  intro s ba cI b8 pi ao h bt cq;simp[om] at h;obtain⟨rfl,rfl,rfl,rfl⟩:=h;exact⟨cq,fun g aG a w _ aj=>⟨aG,aj⟩⟩
 | cons x tape ih =>
  intro s ba cI b8 pi ao h bt cq
  cases x with
  | aT a4 c9 ql =>
   simp only[om] at h;split at h;rotate_left
   ·simp at h
   rename_i s1 n1 bX h1;split at h;rotate_left
   ·simp at h
   rename_i t2 s2 n2 aK h2;simp only[dB,dF] at h;obtain⟨rfl,rfl,rfl,rfl⟩:=h
   have Hn:s1.mB n1:=by
    unfold K7 at h1;split at h1
    ·split at h1
     ·simp only[dB,dF] at h1;obtain⟨rfl,rfl,rfl⟩:=h1;exact zL _ _
     simp at h1
    simp at h1
   obtain⟨e1,e2⟩:=ih s1 n1 t2 s2 n2 aK h2 (fun p ah=>bt p (by simp[ah])) Hn;refine⟨e1,fun g aG a w hm aj=> ?_⟩;obtain⟨-,f2⟩:=aio aj (by rw[hm];exact h1) (fun p ah=>bt p (by simp[ah]));exact e2 g _ a w hm f2
  | xc l c9 ql =>
   simp only[om] at h;split at h;rotate_left
   ·simp at h
   rename_i s1 n1 bX h1;split at h;rotate_left
   ·simp at h
   rename_i t2 s2 n2 aK h2;simp only[dB,dF] at h;obtain⟨rfl,rfl,rfl,rfl⟩:=h
   have Hn:s1.mB n1:=by
    unfold KS at h1;split at h1
    ·split at h1
     ·simp only[dB,dF] at h1;obtain⟨rfl,rfl,rfl⟩:=h1;exact zL _ _
     simp at h1
    simp at h1
   obtain⟨e1,e2⟩:=ih s1 n1 t2 s2 n2 aK h2 (fun p ah=>bt p (by simp[ah])) Hn;refine⟨e1,fun g aG a w hm aj=> ?_⟩;obtain⟨-,f2⟩:=ahm aj (by rw[hm];exact h1) (fun p ah=>bt p (by simp[ah]));exact e2 g _ a w hm f2
  | ky r =>
   simp only[om] at h;split at h
   ·rename_i row ev
    have eN:r<ba:=by
     rcases Nat.lt_or_ge r ba with c1|c1
     ·exact c1
     rw[cq r c1] at ev;simp at ev
    obtain⟨e1,e2⟩:=ih _ ba cI b8 pi ao h bt (aga cq eN);exact⟨e1,fun g aG a w hm aj=>e2 g aG a w hm (aj.freeze ev)⟩
   simp at h
  | w3 t sz =>
   simp only[om] at h;split at h
   ·rename_i cl;obtain⟨e1,e2⟩:=ih _ (ba+1) cI b8 pi ao h bt (by intro q a1;have:q≠ba:=(by omega);simp[S.setRow,this,cq q (by omega)]);refine⟨e1,fun g aG a w hm aj=> ?_⟩;obtain⟨b6,jo⟩:=aj.w3 (sz:=sz) (cq ba (dD _)) cl;exact e2 g b6 a w hm jo
   simp at h
  | tX r j sz =>
   simp only[om] at h;split at h;rotate_left
   ·simp at h
   rename_i vQ c cL ev;split at h
   ·rename_i ay
    have eN:r<ba:=by
     rcases Nat.lt_or_ge r ba with c1|c1
     ·exact c1
     rw[cq r c1] at ev;simp at ev
    obtain⟨e1,e2⟩:=ih _ (ba+1) cI b8 pi ao h bt (by intro q a1;have h1:q≠ba:=(by omega);have h2:q≠r:=(by omega);simp[S.setRow,h1,h2,cq q (by omega)]);refine⟨e1,fun g aG a w hm aj=> ?_⟩;obtain⟨b6,jo⟩:=aj.akS (sz:=sz) (cq ba (dD _)) ev ay;exact e2 g b6 a w hm jo
   simp at h
  | Ih =>
   simp only[om] at h;obtain⟨e1,e2⟩:=ih _ (ba+1) cI b8 pi ao h bt (by intro q a1;have:q≠ba:=(by omega);simp[S.setRow,this,cq q (by omega)]);refine⟨e1,fun g aG a w hm aj=> ?_⟩;obtain⟨b6,-,jo⟩:=aj.more (row:=[]) (cq ba (dD _)) (by simp);exact e2 g b6 a w hm jo
  | ai dc=>simp[om] at h;obtain⟨rfl,rfl,rfl,rfl⟩:=h;exact⟨cq,fun g aG a w _ aj=>⟨aG,aj⟩⟩
  | ab b=>simp[om] at h;obtain⟨rfl,rfl,rfl,rfl⟩:=h;exact⟨cq,fun g aG a w _ aj=>⟨aG,aj⟩⟩
  | sub e env rows=>simp[om] at h;obtain⟨rfl,rfl,rfl,rfl⟩:=h;exact⟨cq,fun g aG a w _ aj=>⟨aG,aj⟩⟩
theorem Kx {c:Code}{e:Exit}{s b8:S}(h:∀ {Q:Exit->Act->World->Prop} {a w},Q e a w->c.wp P Q a w)(bM:b8=s):k9 P N m c e s b8:=by intro g aG a w _ _ aj;exact h ⟨rfl,aG,by rw[bM];exact aj⟩
theorem agE (sQ:P.follows .mixedOrders=true): ∀(c:Code) (tape:List bE) (s:S) (ba:Nat) (r:aaI),o1 P N m c tape s ba=some r->(∀p∈r.gz,p)->s.mB ba ->
 (r.s.mB r.ba/\(∀l,r.e≠ .goto l))/\k9 P N m c r.e s r.s:=by
 intro c
 induction c with
 | skip =>
  intro tape s ba r h bt cq;simp[o1] at h;subst h;exact⟨⟨cq,by simp⟩,Kx wp_skip rfl⟩
 | label l =>
  intro tape s ba r h bt cq;simp[o1] at h;subst h;exact⟨⟨cq,by simp⟩,Kx wp_label rfl⟩
 | exit id =>
  intro tape s ba r h bt cq;simp[o1] at h;subst h;exact⟨⟨cq,by simp⟩,Kx wp_exit rfl⟩
 | ret =>
  intro tape s ba r h bt cq;simp[o1] at h;subst h;exact⟨⟨cq,by simp⟩,Kx wp_ret rfl⟩
 | seq x y ZR al7 =>
  intro tape s ba r h bt cq;simp only[o1] at h;split at h
  ·rename_i s1 n1 t1 bX h1
   split at h
   ·rename_i e2 s2 n2 t2 aK h2;simp only[dB] at h;subst h;obtain⟨⟨f1,-⟩,v1⟩:=ZR _ _ _ _ h1 (fun p ah=>bt p (by simp[ah])) cq;obtain⟨f2,v2⟩:=al7 _ _ _ _ h2 (fun p ah=>bt p (by simp[ah])) f1;exact⟨f2,v1.seq v2⟩
   simp at h
  ·rename_i r1 di h1;simp only[dB] at h;subst h;obtain⟨f1,v1⟩:=ZR _ _ _ _ h1 bt cq;refine⟨f1,v1.ajl fun he=> ?_⟩;obtain⟨e1,s1,n1,t1,bX⟩:=r1;simp only at he;subst he;exact di s1 n1 t1 bX rfl
  simp at h
 | block id c ih =>
  intro tape s ba r h bt cq;simp only[o1] at h;split at h
  ·rename_i AL s1 n1 t1 bX h1;simp only[dB] at h;subst h;obtain⟨⟨f1,f2⟩,v1⟩:=ih _ _ _ _ h1 bt cq;exact⟨⟨f1,by intro l;simp only;split<;>simp⟩,v1.agD⟩
  rename_i di;obtain⟨f1,v1⟩:=ih _ _ _ _ h bt cq;refine⟨f1,v1.block fun i he=> ?_⟩;obtain⟨e1,s1,n1,t1,bX⟩:=r;simp only at he;subst he;exact di i s1 n1 t1 bX h
 | scope c ih =>
  intro tape s ba r h bt cq;simp only[o1] at h;obtain⟨f1,v1⟩:=ih _ _ _ _ h bt cq;exact⟨f1,v1.scope f1.2⟩
 | region id ops draw =>
  intro tape s ba r h bt cq;simp only[o1] at h;split at h
  ·rename_i dc t1 s1 n1 bX h1
   split at h
   ·rename_i s2 aK h2;simp only[dB] at h;subst h;obtain⟨f1,v1⟩:=Dk _ _ _ _ _ _ _ h1 (fun p ah=>bt p (by simp[ah])) cq;refine⟨⟨ae2 h2 f1,by simp⟩,?_⟩;intro g aG a w hg hm aj;obtain⟨mZ,jS⟩:=v1 g aG a w hm aj;subst hg;exact aeE sQ h2 (fun p ah=>bt p (by simp[ah])) f1 jS id fun b6 eF bZ c1=>⟨rfl,b6,c1⟩
   simp at h
  simp at h
 | cond x c d al8 al9 =>
  intro tape s ba r h bt cq;simp only[o1] at h;split at h
  ·rename_i e env rows t1 s1 n1 bX h1;simp only[dB] at h;subst h;obtain⟨f1,v1⟩:=Dk _ _ _ _ _ _ _ h1 (fun p ah=>bt p (by simp[ah])) cq;have bh:k9 P N m (.cond x c d) e.x s1 (dj env rows):=bt _ (by simp);refine⟨⟨zL _ _,by intro l;cases e<;>simp[Bb.x]⟩,fun g aG a w hg hm aj=> ?_⟩;obtain⟨mZ,jS⟩:=v1 g aG a w hm aj;exact bh g mZ a w hg hm jS
  ·rename_i b t1 s1 n1 bX h1
   split at h;rotate_left
   ·simp at h
   rename_i v bh;have a0 : ∀(g:G) aG a w,dh g s1 aG a w->a.eval x = .bool v:=(by intro g aG a w aj;have:=aj.eval x;rw[bh] at this;exact this.x7);split at h
   ·split at h
    ·rename_i e2 s2 n2 t2 aK h2;simp only[dB] at h;subst h;obtain⟨f1,v1⟩:=Dk _ _ _ _ _ _ _ h1 (fun p ah=>bt p (by simp[ah])) cq;obtain⟨f2,v2⟩:=al8 _ _ _ _ h2 (fun p ah=>bt p (by simp[ah])) f1;have Qb:v=true:=bt _ (by simp);refine⟨f2,fun g aG a w hg hm aj=> ?_⟩;obtain⟨mZ,jS⟩:=v1 g aG a w hm aj;exact wp_cond_true (by rw[a0 g mZ a w jS,Qb]) (v2 g mZ a w hg hm jS)
    simp at h
   split at h
   ·rename_i e2 s2 n2 t2 aK h2;simp only[dB] at h;subst h;obtain⟨f1,v1⟩:=Dk _ _ _ _ _ _ _ h1 (fun p ah=>bt p (by simp[ah])) cq;obtain⟨f2,v2⟩:=al9 _ _ _ _ h2 (fun p ah=>bt p (by simp[ah])) f1;have Qb:v=false:=bt _ (by simp);refine⟨f2,fun g aG a w hg hm aj=> ?_⟩;obtain⟨mZ,jS⟩:=v1 g aG a w hm aj;exact wp_cond_false (by rw[a0 g mZ a w jS,Qb]) (v2 g mZ a w hg hm jS)
   simp at h
  simp at h
 | loop c ih =>
  intro tape s ba r h bt cq;simp only[o1] at h;split at h
  ·rename_i e env rows t1 s1 n1 bX h1;simp only[dB] at h;subst h;obtain⟨f1,v1⟩:=Dk _ _ _ _ _ _ _ h1 (fun p ah=>bt p (by simp[ah])) cq;have bh:k9 P N m (.loop c) e.x s1 (dj env rows):=bt _ (by simp);refine⟨⟨zL _ _,by intro l;cases e<;>simp[Bb.x]⟩,fun g aG a w hg hm aj=> ?_⟩;obtain⟨mZ,jS⟩:=v1 g aG a w hm aj;exact bh g mZ a w hg hm jS
  simp at h
 | _=>intro tape s ba r h;simp[o1] at h
def uH (P:Program)(N m:Nat)(c:Code)(e:Exit)(s b8:S):Prop :=
 ∃n,∀(g:G) aG a w,g.N=N->g.m=m->dh g s aG a w->Code.rounds P c (fun fl eF bZ=>fl=e/\ ∃b6,dh g b8 b6 eF bZ) n a w
theorem uH.ama {c:Code}{e:Exit}{s b8:S}(h:uH P N m c e s b8):k9 P N m (.loop c) e s b8:=by obtain⟨n,h⟩:=h;intro g aG a w hg hm aj;exact wp_loop_rounds n (h g aG a w hg hm aj)
theorem uH.out {c:Code}{e:Exit}{s b8:S}(h:k9 P N m c e s b8)(he:e≠ .normal):uH P N m c e s b8:=by refine⟨1,fun g aG a w hg hm aj=> ?_⟩;rw[rounds_succ];refine wp_mono (h g aG a w hg hm aj) fun fl eF bZ a1=> ?_;obtain⟨rfl,jo⟩:=a1;cases fl<;>first|exact absurd rfl he|exact⟨rfl,jo⟩
theorem uH.next {c:Code}{e:Exit}{s s1 b8:S}(h:k9 P N m c .normal s s1)(h2:uH P N m c e s1 b8):uH P N m c e s b8:=by obtain⟨n,h2⟩:=h2;refine⟨n+1,fun g aG a w hg hm aj=> ?_⟩;rw[rounds_succ];refine wp_mono (h g aG a w hg hm aj) fun fl eF bZ a1=> ?_;obtain⟨rfl,b6,jo⟩:=a1;exact h2 g b6 eF bZ hg hm jo
inductive cn:List Prop->Prop
 | nil:cn []
 | cons {p:Prop} {l:List Prop} (h:p) (t:cn l):cn (p::l)
theorem cn.c {p:Prop}{l:List Prop}(h:p)(t:cn l):cn (p::l):= .cons h t
theorem cn.aB {l m:List Prop}(h:cn l)(k:cn m):cn (l++m):=by
 induction h with
 | nil=>exact k
 | cons h _ ih=>exact .cons h ih
theorem cn.all {l:List Prop}(h:cn l): ∀p∈l,p:=by
 induction h with
 | nil=>intro p ah;simp at ah
 | cons h t ih =>
  intro q a1;rw[dS] at a1;rcases a1 with rfl|a1
  ·exact h
  exact ih q a1
theorem cn.of : ∀ {l:List Prop},(∀p∈l,p)->cn l
 | [],_=> .nil
 | _::_,h=> .cons (h _ (by simp)) (.of fun p ah=>h p (by simp[ah]))
def LM (P:Program)(N m:Nat)(c:Code)(tape:List bE)(s:S)(ba:Nat):Option (Exit×S×List Prop) :=
 match o1 P N m c tape s ba with
 | some ⟨e,s1,n1,t1,bX⟩=>match om m t1 s1 n1 with
  | some ([],s2,_,aK)=>some (e,s2,bX++aK)
  | _=>none
 | none=>none
theorem Wz (sQ:P.follows .mixedOrders=true){c:Code}{tape:List bE}{s b8:S}{ba:Nat}{e:Exit}{ao:List Prop}(h:LM P N m c tape s ba=some (e,b8,ao))(bt:cn ao)(cq:s.mB ba):
 k9 P N m c e s b8:=by
 have bt:=bt.all;unfold LM at h;split at h
 ·rename_i e1 s1 n1 t1 bX h1
  split at h
  ·rename_i s2 n2 aK h2;simp only[dB,dF] at h;obtain⟨rfl,rfl,rfl⟩:=h;obtain⟨⟨f1,-⟩,v1⟩:=agE sQ c tape s ba _ h1 (fun p ah=>bt p (by simp[ah])) cq;obtain⟨-,v2⟩:=Dk _ _ _ _ _ _ _ h2 (fun p ah=>bt p (by simp[ah])) f1;intro g aG a w hg hm aj;refine wp_mono (v1 g aG a w hg hm aj) fun fl eF bZ a1=> ?_;obtain⟨rfl,b6,jo⟩:=a1;exact⟨rfl,v2 g b6 eF bZ hm jo⟩
  simp at h
 simp at h
end
def wJ (P:Program)(s:S):ResultVar->Option aF
 | .tmp t=>some (s.E t)
 | .cell t fG=>match s.E t with
  | .ref r k i off=>match d8 (s.a8 r) k with
   | some o=>match o.es[i]? with
    | some c=>tJ P fG c off
    | none=>none
   | none=>none
  | _=>none
def PA (P:Program)(s:S):List ResultVar->Option aF
 | []=>some (.dd [])
 | [x]=>wJ P s x
 | [x,y]=>match wJ P s x,wJ P s y with
  | some a,some b=>some (.dd [a,b])
  | _,_=>none
 | [x,y,z]=>match wJ P s x,wJ P s y,wJ P s z with
  | some a,some b,some c=>some (.dd [a,b,c])
  | _,_,_=>none
 | _=>none
def OW (tmps:Array Value):ResultVar->Sem Value
 | .tmp t=>pure (tmps.getD t undef)
 | .cell a t=>do loadVar t (<- asAddr (tmps.getD a undef))
theorem agb (fn:Func)(tmps:Array Value):results fn tmps=(do
 let vs <- fn.results.mapM (OW tmps)
 pure (if h:vs.size=1 then vs[0] else .tuple vs)):=rfl
def zZ (args:List aF)(T:List (List aS)):S:={E:=fun t=>(args[t]?).getD (.dd []),a8:=fun r=>T[r]?}
def YU:Exit->Bool
 | .normal=>true
 | .ret=>true
 | _=>false
def HO (P:Program)(f:FuncId)(args:List aF)(T:List (List aS))(tape:List bE)(a4:List Nat)(c9:List j2)(f9:ni):Option (aF×List (List aS)×List Prop) :=
 match P.funcs[f]? with
 | none=>none
 | some fn=>match fn.body with
  | none=>none
  | some c=>if fn.name == "runtime.NumGoroutine" then none else
   match LM P fn.ntmps T.length c tape (zZ args T) T.length with
   | none=>none
   | some (e,s,bX)=>if YU e && decide a4.Nodup && Hm a4 T.length then
    match PA P s fn.results.toList with
    | none=>none
    | some r0=>match wU s.a8 (b4 a4) (pd a4) a4 c9,pX s.a8 (b4 a4) (pd a4) j8 f9 r0 with
     | some (iF,aK),some (r,eQ)=>some (r,iF,bX++aK++eQ)
     | _,_=>none
    else none
section
variable {P:Program}
theorem Dl {g:G}{s:S}{aG:gE}{a:Act}{w:World}(h:dh g s aG a w){x:ResultVar}{r0:aF}(aj:wJ P s x=some r0):
 ∃v,(OW a.tmps x).run P w = .ok v w/\Rel w (s.ok g aG w) s.bg (s.bn aG) r0 v:=by
 cases x with
 | tmp t =>
  simp only[wJ,dB] at aj;subst aj;exact⟨_,rfl,h.env t⟩
 | cell t fG =>
  simp only[wJ] at aj;have U:=h.env t;split at aj;rotate_left
  ·simp at aj
  rename_i r k i off iL;rw[iL] at U;split at aj;rotate_left
  ·simp at aj
  rename_i o ap;split at aj
  ·rename_i c a0
   have e6:s.ao r k=some o:=ap;have gv:=h.obj r k o e6;rcases U.zR (jV e6) with h0|⟨b,m,ah,hval⟩
   ·rw[h0] at gv;simp only[kS] at gv;rw[gv] at a0;simp at a0
   rw[ah] at gv;obtain⟨u,h1,h2⟩:=NS (P:=P) gv.rd a0 aj;refine⟨u,?_,h2⟩;rw[dG] at h1;simp only[OW,hval,asAddr];simpa [Instr.loadAt,Instr.sureAddr] using h1
  simp at aj
theorem agF {g:G}{s:S}{aG:gE}{a:Act}{w:World}(h:dh g s aG a w){fn:Func}{r0:aF}(aj:PA P s fn.results.toList=some r0):
 ∃v,(results fn a.tmps).run P w = .ok v w/\Rel w (s.ok g aG w) s.bg (s.bn aG) r0 v:=by
 have Ll : ∀l,fn.results.toList=l->fn.results=l.toArray:=fun l aR=>by rw[<- aR]
 unfold PA at aj;rw[agb];split at aj
 ·rename_i aR;simp only[dB] at aj;subst aj;rw[Ll _ aR];exact⟨.tuple #[],by simp,.dd [] rfl (by simp)⟩
 ·rename_i x aR;rw[Ll _ aR];obtain⟨v,h1,h2⟩:=Dl h aj;exact⟨v,by simp[h1,Sem.run_bind,Result.andThen],h2⟩
 ·rename_i x y aR
  rw[Ll _ aR];split at aj
  ·rename_i p q ah a1
   simp only[dB] at aj;subst aj;obtain⟨v1,h1,h2⟩:=Dl h ah;obtain⟨v2,J,ak⟩:=Dl h a1;refine⟨.tuple #[v1,v2],by simp[h1,J,Sem.run_bind,Result.andThen],.dd [v1,v2] rfl ?_⟩;intro j x v U bh
   match j,U,bh with
   | 0,U,bh=>obtain rfl:=dJ U;obtain rfl:=dJ bh;exact h2
   | 1,U,bh=>obtain rfl:=dJ U;obtain rfl:=dJ bh;exact ak
   | j+2,U,bh=>simp at U
  simp at aj
 ·rename_i x y z aR
  rw[Ll _ aR];split at aj
  ·rename_i p q t ah a1 cl
   simp only[dB] at aj;subst aj;obtain⟨v1,h1,h2⟩:=Dl h ah;obtain⟨v2,J,ak⟩:=Dl h a1;obtain⟨v3,ax,aN⟩:=Dl h cl;refine⟨.tuple #[v1,v2,v3],by simp[h1,J,ax,Sem.run_bind,Result.andThen],.dd [v1,v2,v3] rfl ?_⟩;intro j x v U bh
   match j,U,bh with
   | 0,U,bh=>obtain rfl:=dJ U;obtain rfl:=dJ bh;exact h2
   | 1,U,bh=>obtain rfl:=dJ U;obtain rfl:=dJ bh;exact ak
   | 2,U,bh=>obtain rfl:=dJ U;obtain rfl:=dJ bh;exact aN
   | j+3,U,bh=>simp at U
  simp at aj
 simp at aj
theorem finish {g:G}{s:S}{aG:gE}{a:Act}{w:World}(h:dh g s aG a w){a4:List Nat}{c9:List j2}{f9:ni}{r0 r:aF}{iF:List (List aS)}{aK eQ:List Prop}
 (hnd:a4.Nodup) (uR:Hm a4 g.m=true) (h1:wU s.a8 (b4 a4) (pd a4) a4 c9=some (iF,aK)) (h2:pX s.a8 (b4 a4) (pd a4) j8 f9 r0=some (r,eQ)) (qd : ∀p∈aK,p) (P5 : ∀p∈eQ,p)
 {v:Value} (bh:Rel w (s.ok g aG w) s.bg (s.bn aG) r0 v) :
 ∃b6,jX g (f7 iF) b6 w/\Rel w ((f7 iF).ok g b6 w) (f7 iF).bg ((f7 iF).bn b6) r v:=by
 obtain⟨e1,e2⟩:=Oo h.tojX (K8 hnd) a4 c9 iF aK h1 qd;have AM:jz s (pd a4) j8 oc r0 r:=GN h.tojX (K8 hnd) (yp _) h2 P5 trivial bh;have dv:sU s (pd a4) j8 oc (f7 iF).a8:=Yi hnd e1 e2;have HI:=W6 h.tojX uR;have hR : ∀b,(f7 iF).n5 (lB aG (pd a4)) b->s.n5 aG b:=fun b aR=>by obtain⟨q,k,o,m,h1,h2,J,-⟩:=dv.live (b8:=f7 iF) b aR;exact⟨q,k,o,m,h1,h2,J⟩
 have Hi : ∀j k,g.rA j k->(f7 iF).bg j k/\((f7 iF).bn (lB aG (pd a4)) j k=g.uL j k\/(f7 iF).bn (lB aG (pd a4)) j k=none):=by
  intro j k ay;obtain⟨e1,e2⟩:=h.stay j k ay;refine⟨dv.bg j k j k (HI j k ay) e1,?_⟩;rcases dv.LG (b8:=f7 iF) (aG:=aG) (HI j k ay) with e|e
  ·rw[e];exact e2
  exact .inr e
 obtain⟨f1,f2⟩:=h.tojX.QQ (b8:=f7 iF) dv h.iC Hi h.low h.mlt h.pE (fun r k o b m _ ap ah=>h.own r k o b m ap ah)
  (fun b a3=>⟨a3.1,a3.2.1,fun aR=>a3.2.2 (hR b aR)⟩)
  (fun q k o b m ap _ aj ah=>by
    have bt:=h.obj q k o ap;rw[ah] at bt;obtain⟨c,fG,e1,-⟩:=bt;refine⟨(ap7.1 e1).1,?_,fun aR=> ?_⟩
    ·rcases h.own q k o b m ap ah with e|e
     ·exact .inr (.inl e)
     exact .inr (.inr e)
    obtain⟨fH,ea,cp,aH,f1,f2,f3,⟨E6,IX,f4⟩⟩:=dv.live (b8:=f7 iF) b aR;obtain⟨rfl,rfl⟩:=h.inj q k o fH ea cp b m aH ap f1 ah f3;exact aj E6 IX f4)
 exact⟨_,f1,f2 AM bh⟩
theorem W9 (sQ:P.follows .mixedOrders=true){f:FuncId}{args:List aF}{T:List (List aS)}{tape:List bE}{a4:List Nat}{c9:List j2}{f9:ni}{r:aF}{iF:List (List aS)}{ao:List Prop}
 (h:HO P f args T tape a4 c9 f9=some (r,iF,ao)) (bt:cn ao):Con P f args T r iF:=by
 have bt:=bt.all;unfold HO at h;split at h
 ·simp at h
 rename_i fn ZS;split at h
 ·simp at h
 rename_i c a0;split at h
 ·simp at h
 rename_i akT;split at h
 ·simp at h
 rename_i e s bX mb;split at h;rotate_left
 ·simp at h
 rename_i YV;simp only[dN,decide_eq_true_eq] at YV;obtain⟨⟨Eo,hnd⟩,uR⟩:=YV;split at h
 ·simp at h
 rename_i r0 nw;split at h;rotate_left
 ·simp at h
 rename_i pj aK r2 eQ h1 h2;simp only[dB,dF] at h;obtain⟨rfl,rfl,rfl⟩:=h;refine⟨⟨fn,ZS,by simpa using akT,by simp[a0]⟩,?_⟩;intro g aG w vs hw hm AG nt eG fU hargs;have Hn:(zZ args T).mB T.length:=by intro q a1;simp[zZ,a1]
 have ao2:=eG
 let gV:G:={g with N:=fn.ntmps}
 have gv:dh gV (zZ args T) aG {tmps:=vs++Array.replicate (fn.ntmps-vs.size) undef,defers:=[]} w:=by
  have LN:(zZ args T).a8=(f7 T).a8:=rfl;have sg:jX g (zZ args T) aG w:=eG.congr LN;have vR:jX gV (zZ args T) aG w:=⟨sg.obj,sg.inj,sg.own,⟨sg.iC.os,sg.iC.tape,sg.iC.output,sg.iC.size,sg.iC.block⟩,sg.mlt,sg.pE,sg.stay,sg.low⟩;refine {tojX:=vR,env:=fun t=> ?_,defers:=rfl,lz:=by simp[gV];omega}
  have e1:(vs++Array.replicate (fn.ntmps-vs.size) undef).getD t undef=(vs[t]?).getD undef:=by
   rw[ap3,Array.getElem?_append];split
   ·rfl
   rename_i eN;rw[Array.getElem?_replicate];have:vs[t]? = none:=(by simp;omega);rw[this];split<;>rfl
  show Rel _ _ _ _ ((args[t]?).getD (.dd [])) _;rw[e1]
  cases U:args[t]? with
  | none =>
   have:vs[t]? = none:=(by rw[List.getElem?_eq_none_iff] at U;simp;omega);rw[this];exact Wr
  | some x =>
   have eN:=f6 U;have bh:vs[t]? = some vs[t]:=apU (by omega);rw[bh];have:=hargs t x _ U bh;rw[<- GL LN,<- DI LN,<- DJ LN] at this;exact this
 have bh:=Wz sQ mb (by exact cn.of fun p ah=>bt p (by simp[ah])) Hn gV aG _ w rfl hm gv;refine calls_of_wp ZS a0 (wp_mono bh fun fl eF bZ a1=> ?_);obtain⟨rfl,b6,jo⟩:=a1;obtain⟨v,v1,v2⟩:=agF (P:=P) jo nw;obtain⟨nB,f1,f2⟩:=finish jo hnd (by rw[show gV.m=T.length from hm];exact uR) h1 h2 (fun p ah=>bt p (by simp[ah])) (fun p ah=>bt p (by simp[ah])) v2;have Zi:eF.defers=[]/\ ∃v,(results fn eF.tmps).run P bZ = .ok v bZ/\ ∃ZT b6,Ending.returned v=Ending.returned ZT/\jX g (f7 pj) b6 bZ/\Rel bZ ((f7 pj).ok g b6 bZ) (f7 pj).bg ((f7 pj).bn b6) r2 ZT:=by refine⟨jo.defers,v,v1,v,nB,rfl,?_,f2⟩;exact⟨f1.obj,f1.inj,f1.own,⟨f1.iC.os,f1.iC.tape,f1.iC.output,f1.iC.size,f1.iC.block⟩,f1.mlt,f1.pE,f1.stay,f1.low⟩
 cases fl<;>simp only[YU,apS] at Eo
 ·exact Zi
 exact Zi
theorem ahn (sQ:P.follows .mixedOrders=true){f:FuncId}{args:List aF}{tape:List bE}{f9:ni}{r:aF}{ao:List Prop}
 (h:HO P f args [] tape [] [] f9=some (r,[],ao)) (bt:cn ao):Con P f args [] r []:=W9 sQ h bt
end
def bl {α:Type}(o:Option α)(Q:α->Prop):Prop:= ∀r,o=some r->Q r
section
variable {α β:Type} {Q:α->Prop}
theorem bl.ite {b:Bool}{x y:Option α}(h1:b=true->bl x Q)(h2:b=false->bl y Q):bl (if b=true then x else y) Q:=by
 cases b
 ·exact h2 rfl
 exact h1 rfl
theorem bl.ae {o:Option β}{f:β->Option α}(h:∀x,o=some x->bl (f x) Q):bl (o >>= f) Q:=by
 cases o with
 | none=>intro r aj;simp at aj
 | some x=>exact h x rfl
theorem bl.aL {p:Prop}[Decidable p] {x:Option α} (h:p->bl x Q):bl (if p then x else none) Q:=by
 by_cases ah:p
 ·rw[dw ah];exact h ah
 rw[dA ah];intro r aj;simp at aj
theorem bl.ret {r:α}(h:Q r):bl (some r) Q:=by intro x U;obtain rfl:=dJ U;exact h
end
theorem bl.EK {α:Type}{Q:α->Prop}:bl (none:Option α) Q:=by intro r aj;simp at aj
def nodeAt:Code->List Nat->Code
 | c,[]=>c
 | .seq x _,0::l=>nodeAt x l
 | .seq _ y,1::l=>nodeAt y l
 | .cond _ x _,0::l=>nodeAt x l
 | .cond _ _ y,1::l=>nodeAt y l
 | .block _ x,0::l=>nodeAt x l
 | .loop x,0::l=>nodeAt x l
 | .scope x,0::l=>nodeAt x l
 | _,_=> .skip
def OX (P:Program)(f:FuncId):Code :=
 match P.funcs[f]? with
 | some fn=>match fn.body with
  | some c=>c
  | none=> .skip
 | none=> .skip
theorem OI {α β:Type}{f:α->β}{l:List α}{i:Nat}{x:α}(h:l[i]? = some x):(l.map f)[i]? = some (f x):=by rw[dK,h];rfl
theorem XG {α β:Type}{f:α->β}{l:List α}{j:Int}(h:j<l.length):j<((l.map f).length:Nat):=by rw[ap4];exact h
theorem Yk {α β:Type}{f:α->β}{l:List α}{j:Nat}(h:j<l.length):j<(l.map f).length:=by rw[ap4];exact h
def iter {α β:Type}(f:α->Option (α⊕β))(a:α):Option β:=do
 match <- f a with
 | .inl eF=>iter f eF
 | .inr r=>some r
partial_fixpoint
abbrev anr:fY×Bool:=(.none,true)
abbrev ans:fY×Bool:=(.none,false)
abbrev ii:ni:= .bf (.bV .id)
abbrev R (x:Int):Int:=IntKind.wrap .i64 x
section
variable {P:Program} {N m:Nat} {α β:Type}
theorem ajm {c:Code}{f:α->Option (α⊕β)}{head:α->S}{jL:β->Exit}{out:β->S}(hex:∀r,jL r≠ .normal)
 (h : ∀a,bl (f a) (Sum.elim (fun eF=>k9 P N m c .normal (head a) (head eF)) (fun r=>k9 P N m c (jL r) (head a) (out r)))) : ∀a r,iter f a=some r->uH P N m c (jL r) (head a) (out r):=by
 apply iter.partial_correctness f (fun a r=>uH P N m c (jL r) (head a) (out r));intro it ih a r aj
 cases cq:f a with
 | none=>rw[cq] at aj;simp at aj
 | some x =>
  have U:=h a x cq;rw[cq] at aj
  cases x with
  | inl eF =>
   have jo:it eF=some r:=aj;exact uH.next U (ih eF r jo)
  | inr fH =>
   have jo:some fH=some r:=aj;obtain rfl:=dJ jo;exact uH.out U (hex _)
theorem bW {a:Bool}(h:a=true):(!a)=false:=by rw[h];rfl
theorem b5 {a:Bool}(h:a=false):(!a)=true:=by rw[h];rfl
theorem oJ {bT:Type}{raw:List (List aF)}{f:bT->List aF}{l:List bT}(e:raw=l.map f){i:Nat}{x:bT}(h:l[i]? = some x):raw[i]? = some (f x):=by rw[e];exact OI h
theorem Yl {bT:Type}{raw:List (List aF)}{f:bT->List aF}{l:List bT}(e:raw=l.map f){j:Nat}(h:j<l.length):j<raw.length:=by rw[e];exact Yk h
theorem tx {bT:Type}{raw:List (List aF)}{f:bT->List aF}{l:List bT}(e:raw=l.map f)(i:Nat)(x:bT):raw.set i (f x)=(l.set i x).map f:=by rw[e,List.map_set]
theorem lU {bT:Type}(f:bT->List aF)(n:Nat)(x:bT):List.replicate n (f x)=(List.replicate n x).map f:=by rw[List.map_replicate]
theorem oZ {bT:Type}{raw:List (List aF)}{f:bT->List aF}{l:List bT}(e:raw=l.map f)(i n:Nat):(raw.drop i).take n=((l.drop i).take n).map f:=by rw[e,List.map_take,List.map_drop]
theorem ajn {bT:Type}{raw:List (List aF)}{f:bT->List aF}{l:List bT}(e:raw=l.map f):raw.length=l.length:=by rw[e,ap4]
theorem Oq {bT:Type}{raw:List (List aF)}{f:bT->List aF}{l:List bT}(e:raw=l.map f)(i n:Nat):((l.drop i).take n).map f=(raw.drop i).take n:=(oZ e i n).symm
theorem sB {bT:Type}{raw:List (List aF)}{f:bT->List aF}{l:List bT}(e:raw=l.map f){n:Nat}(h:n<=l.length):n<=raw.length:=by rw[ajn e];exact h
theorem df {bT:Type}{f:bT->List aF}(cq:∀x,∀v∈f x,Pure v)(l:List bT):j6 (l.map f):=by intro e he v bh;rw[List.mem_map] at he;obtain⟨x,-,rfl⟩:=he;exact cq x v bh
theorem ajo {bT:Type}{raw:List (List aF)}{f:bT->List aF}{l:List bT}{sz:Nat}{cL:hr}(e:raw=l.map f):[aS.mk sz raw cL]=[aS.mk sz (l.map f) cL]:=by rw[e]
theorem aiq {bT:Type}{f:bT->List aF}(cq:∀x,∀v∈f x,Pure v){sz:Nat}{cL:hr}(l:List bT):DT [aS.mk sz (l.map f) cL]:=by intro o ap;rw[List.mem_singleton] at ap;subst ap;exact df cq l
theorem pt {c:List aF}(h:∀v∈c,Pure v):j6 [c]:=by intro e he;rw[List.mem_singleton] at he;subst he;exact h
theorem mm : ∀x∈([]:List aF),bx x:=by simp
theorem hq {x:aF}{l:List aF}(h:bx x)(t:∀y∈l,bx y): ∀y∈x::l,bx y:=by
 intro y aV;rw[dS] at aV;rcases aV with rfl|aV
 ·exact h
 exact t y aV
theorem ri {l:List aF}(h:∀y∈l,bx y):bx (.dd l):= .dd h
def len_ {bT:Type}(f:bT->List aF)(l:List bT):Int:=((l.map f).length:Nat)
theorem fj {bT:Type}(f:bT->List aF)(l:List bT):len_ f l=(l.length:Nat):=by simp[len_]
def eI (x:Int):List aF:=[.n .i64 x]
def gA (x:Bool):List aF:=[.b x]
def Bc (x:ByteArray):List aF:=[.s x]
theorem aw : ∀x,∀v∈eI x,Pure v:=by intro x v bh;simp[eI] at bh;subst bh;exact .n _ _
theorem fq : ∀x,∀v∈gA x,Pure v:=by intro x v bh;simp[gA] at bh;subst bh;exact .b _
theorem XH : ∀x,∀v∈Bc x,Pure v:=by intro x v bh;simp[Bc] at bh;subst bh;exact .s _
def fy {bT:Type}(sz:Nat)(f:bT->List aF)(l:List bT):List aF:=[.isl sz (l.map f)]
theorem pU {bT:Type}{sz:Nat}{f:bT->List aF}(cq:∀x,∀v∈f x,Pure v): ∀l,∀v∈fy sz f l,Pure v:=by intro l v bh;simp[fy] at bh;subst bh;exact .isl (df cq l)
def hl {bT:Type}(sz:Nat)(f:bT->List aF)(x:Option bT):aF:= .f8 sz (x.map f)
def dk {bT:Type}(sz:Nat)(f:bT->List aF)(x:Option bT):List aF:=[hl sz f x]
theorem ajp {bT:Type}{sz:Nat}{f:bT->List aF}(cq:∀x,∀v∈f x,Pure v)(x:Option bT):Pure (hl sz f x):=by
 cases x with
 | none=>exact .r9 _
 | some x=>exact .rq (cq x)
theorem m6 {bT:Type}{sz:Nat}{f:bT->List aF}(cq:∀x,∀v∈f x,Pure v): ∀x,∀v∈dk sz f x,Pure v:=by intro x v bh;simp[dk] at bh;subst bh;exact ajp cq x
theorem ajq {bT:Type}{sz:Nat}{f:bT->List aF}{x:Option bT}(h:x=none):hl sz f x = .f8 sz none:=by rw[h];rfl
theorem ajr {bT:Type}{sz:Nat}{f:bT->List aF}{x:Option bT}{y:bT}(h:x=some y):hl sz f x = .f8 sz (some (f y)):=by rw[h];rfl
theorem bl.lD {α bT:Type}{Q:α->Prop}{o:Option bT}{x:Option α}{f:bT->Option α}(h1:o=none->bl x Q)(h2:∀y,o=some y->bl (f y) Q):bl (o.elim x f) Q:=by
 cases o with
 | none=>exact h1 rfl
 | some y=>exact h2 y rfl
theorem bl.sum {α β bT:Type}{Q:bT->Prop}{s:α⊕β}{f:α->Option bT}{g:β->Option bT}(h1:∀a,s = .inl a->bl (f a) Q)(h2:∀b,s = .inr b->bl (g b) Q):
 bl (match s with | .inl a=>f a | .inr b=>g b) Q:=by
 cases s with
 | inl a=>exact h1 a rfl
 | inr b=>exact h2 b rfl
theorem xT {bT:Type}{n:Nat}{l:List bT}(h:n=l.length)(i:Nat)(x:bT):n=(l.set i x).length:=by rw[List.length_set];exact h
theorem l7 {bT:Type}(n:Nat)(x:bT):n=(List.replicate n x).length:=by rw[List.length_replicate]
theorem pv {bT:Type}{raw:List (List aF)}{f:bT->List aF}{l:List bT}(e:raw=l.map f){n:Nat}(h:n=l.length):(raw.drop 0).take n=l.map f:=by rw[e,h,List.drop_zero,apW (by simp)]
theorem n3 {bT:Type}{rx nD:List (List aF)}{f:bT->List aF}{xs bw:List bT}(jL:rx=xs.map f){n:Nat}(h:n=xs.length)(kM:nD=bw.map f):rx.take n++nD=(xs++bw).map f:=by rw[jL,kM,h,apW (by simp),List.map_append]
theorem Ot {bT:Type}{rx nD:List (List aF)}{f:bT->List aF}{xs bw:List bT}(jL:rx=xs.map f)(n:Nat)(kM:nD=bw.map f):rx.take n++nD=(xs.take n++bw).map f:=by rw[jL,kM,List.map_append,List.map_take]
theorem m2 {bT:Type}{raw:List (List aF)}{f:bT->List aF}{l:List bT}(e:raw=l.map f){n:Nat}(h:n=l.length):0+n<=raw.length:=by rw[e,h];simp
theorem n4 {bT:Type}{raw:List (List aF)}{f:bT->List aF}{l:List bT}(e:raw=l.map f){n:Nat}(h:n=l.length):n<=raw.length:=by rw[e,h];simp
theorem aj6 {bT:Type}{raw:List (List aF)}{f:bT->List aF}{l:List bT}(e:raw=l.map f):l.length=raw.length:=by rw[e];simp
theorem np {bT:Type}{nD:List (List aF)}{f:bT->List aF}{xs bw:List bT}{n:Nat}(h:n=xs.length)(kM:nD=bw.map f):(xs++bw).length=n+nD.length:=by rw[kM,h];simp
theorem Ou {bT:Type}{nD:List (List aF)}{f:bT->List aF}{xs bw:List bT}{n:Nat}(h:n<=xs.length)(kM:nD=bw.map f):(xs.take n++bw).length=n+nD.length:=by rw[kM];simp;omega
theorem nJ {bT:Type}{raw:List (List aF)}{f:bT->List aF}{l:List bT}(e:raw=l.map f){n:Nat}(h:n=l.length):l.map f=(raw.drop 0).take n:=(pv e h).symm
theorem aho {bT:Type}{f:bT->List aF}(cq:∀x,∀v∈f x,Pure v){sz:Nat}(l:List bT):xQ [aS.mk sz (l.map f) .live]:=by intro o ap;rw[List.mem_singleton] at ap;subst ap;exact⟨df cq l,rfl⟩
theorem m3 {bT:Type}{raw:List (List aF)}{f:bT->List aF}{l:List bT}(e:raw=l.map f)(i:Nat){c:List aF}(x:bT)(a0:c=f x):raw.set i c=(l.set i x).map f:=by rw[e,a0,List.map_set]
theorem Con.kk {P:Program}{f:FuncId}{sz:Nat}{T:List (List aS)}{r:aF}{iF:List (List aS)}(h1:Con P f [.fg] T r iF)(h2:Con P f [.kd] T r iF):Con P f [.isl sz []] T r iF:=by
 refine⟨h1.1,?_⟩;intro g aG w vs hw hm AG nt eG fU hargs;have h0:0<vs.size:=by rw[fU];simp
 have bh:=hargs 0 (.isl sz []) vs[0] rfl (apU h0)
 have key : ∀y:aF,Rel w ((f7 T).ok g aG w) (f7 T).bg ((f7 T).bn aG) y vs[0]-> ∀(j:Nat) x v,[y][j]? = some x->vs[j]? = some v->Rel w ((f7 T).ok g aG w) (f7 T).bg ((f7 T).bn aG) x v:=by
  intro y aV j x v U bh
  match j,U,bh with
  | 0,U,bh =>
   obtain rfl:=dJ U;rw[apU h0] at bh;obtain rfl:=dJ bh;exact aV
  | j+1,U,bh=>simp at U
 rcases bh.wG with ⟨-,a,c,he,bF⟩|⟨ff,off,c,-,he,-⟩
 ·cases a with
  | none =>
   have:=bF rfl;subst this;exact h1.2 g aG w vs hw hm AG nt eG fU (key .fg (by rw[he];exact .fg))
  | some a=>exact h2.2 g aG w vs hw hm AG nt eG fU (key .kd (by rw[he];exact .kd a c))
 exact h2.2 g aG w vs hw hm AG nt eG fU (key .kd (by rw[he];exact .kd _ c))
end
open Go Go.ChangeShapes Go.WideShapes Go.RowKit
def mj (w:World)(c:List aF)(cs:List Value):Prop :=
 cs.length=c.length/\ ∀(j:Nat) x v,c[j]? = some x->cs[j]? = some v->l8 v=true/\Rel w (fun b=>b<w.heap.size) (fun _ _=>False) (fun _ _=>none) x v
theorem mj.nil (w:World):mj w [] []:=⟨rfl,fun j x v U=>by simp at U⟩
theorem mj.one {w:World}{x:aF}{v:Value}(a0:l8 v=true)(h:Rel w (fun b=>b<w.heap.size) (fun _ _=>False) (fun _ _=>none) x v):mj w [x] [v]:=by
 refine⟨rfl,fun j y u aV hu=> ?_⟩
 match j,aV,hu with
 | 0,aV,hu=>obtain rfl:=dJ aV;obtain rfl:=dJ hu;exact⟨a0,h⟩
 | j+1,aV,hu=>simp at aV
structure r3 (P:Program) (w:World) (t:TypeId) {α:Type} (f:α->List aF) (fp:α->Prop):Prop where
 pure : ∀a,∀v∈f a,Pure v
 size : ∀a,(f a).length=P.cellsOf t
 opens : ∀ {H:Type} {enc:TypeId×Value->H} {base:Nat} {spare:Nat->Bool} {held:Bool} {sP:Nat} {cs:List Value} {x:DataW H×List MemPlace},
  DataW.trod enc P w base spare held sP t cs=some x-> ∃a,fp a/\mj w (f a) cs
section
variable {P:Program} {w:World} {t:TypeId}
def nR (x:Int):Prop:=(Lit.int .i64 x).wf=true
theorem zB (cl:P.underlying t=some (.int .i64))(a0:P.cellsOf t=1):r3 P w t eI nR where
 pure:=aw
 size:=fun a=>a0.symm
 opens:=fun h=>by obtain⟨n,rfl,-,hw⟩:=DataW.trod_int cl h;exact⟨n,hw,.one rfl (.n _ _)⟩
theorem agG (cl:P.underlying t=some .bool)(a0:P.cellsOf t=1):r3 P w t gA (fun _=>True) where
 pure:=fq
 size:=fun a=>a0.symm
 opens:=fun h=>by obtain⟨n,rfl,-⟩:=DataW.trod_bool cl h;exact⟨n,trivial,.one rfl (.b _)⟩
theorem afL (cl:P.underlying t=some .string)(a0:P.cellsOf t=1):r3 P w t Bc (fun s=>s.size<=maxLen) where
 pure:=XH
 size:=fun a=>a0.symm
 opens:=fun h=>by obtain⟨n,rfl,-,hw⟩:=DataW.trod_string cl h;exact⟨n,hw,.one rfl (.s _)⟩
theorem XI {α:Type}{Q:Nat->α->Prop}: ∀(n:Nat),(∀i,i<n-> ∃a,Q i a)-> ∃l:List α,l.length=n/\ ∀(i:Nat) a,l[i]? = some a->Q i a
 | 0,_=>⟨[],rfl,fun i a h=>by simp at h⟩
 | n+1,h=>by
  obtain⟨l,h1,h2⟩:=XI n fun i aa=>h i (by omega);obtain⟨a,bF⟩:=h n (by omega);refine⟨l++[a],by simp[h1],fun i x U=> ?_⟩;rw[List.getElem?_append] at U;split at U
  ·exact h2 i x U
  have:i=l.length:=(by have:=f6 U;simp at this;omega);subst this;simp at U;subst U;rw[h1];exact bF
theorem JV {e:TypeId}{α:Type}{f:α->List aF}{fp:α->Prop}{sz:Nat}(cl:P.underlying t=some (.slice e))(a0:P.cellsOf t=1)(fU:P.cellsOf e=sz)(ly:0<sz)(he:r3 P w e f fp):
 r3 P w t (fy sz f) (fun l=>l.length<=maxLen/\ ∀x∈l,fp x) where
 pure:=pU he.pure
 size:=fun a=>a0.symm
 opens:=fun h=>by
  rcases DataW.trod_slice cl h with ⟨rfl,-⟩|⟨a,len,cap,elems,rest,n,_,rfl,rfl,a3,aR,hm,hlen,na,ZF,HY⟩
  ·exact⟨[],⟨by simp,by simp⟩,.one rfl (.kk _ _ _ (fun _=>rfl))⟩
  subst fU;have each : ∀i,i<len-> ∃x,fp x/\ ∀j,j<P.cellsOf e-> ∃y v,(f x)[j]? = some y/\w.cell? ((a.add (i*P.cellsOf e)).add j)=some v/\l8 v=true/\Rel w (fun b=>b<w.heap.size) (fun _ _=>False) (fun _ _=>none) y v:=(by intro i aa;have h1:=na i aa;rw[dz (by omega),Option.bind_eq_some_iff] at h1;obtain⟨nv,h2,J⟩:=h1;obtain⟨x,ak,ax,aN⟩:=he.opens J;refine⟨x,ak,fun j ay=> ?_⟩;obtain⟨-,bf,cx⟩:=World.cells?_some h2;have aV:(f x)[j]? = some (f x)[j]:=dz (by rw[he.size];exact ay);have bh:nv[j]? = some nv[j]:=dz (by omega);obtain⟨d1,d2⟩:=aN j _ _ aV bh;exact⟨_,_,aV,by rw[cx j ay,bh],d1,d2⟩);obtain⟨l,ko,lq⟩:=XI len each;refine⟨l,⟨by omega,fun x U=> ?_⟩,.one rfl ?_⟩
  ·obtain⟨i,aa⟩:=ap6 U;exact(lq i x aa).1
  rcases Nat.eq_zero_or_pos len with h0|h0
  ·subst h0;have:l=[]:=dM.1 ko;subst this;exact .kk _ _ _ (by simp)
  obtain⟨ff,off,spot⟩:=a
  have akU:spot=none/\ff<w.heap.size:=by
   obtain⟨x,-,h2⟩:=each 0 h0;obtain⟨y,v,-,J,-⟩:=h2 0 ly;simp only[Nat.zero_mul,Addr.add,if_true] at J;unfold World.cell? at J
   cases gQ:w.heap[ff]? with
   | none=>simp[gQ] at J
   | some o =>
    have eN:=(ap7.1 gQ).1;refine⟨?_,eN⟩;simp only[gQ] at J;cases o<;>simp at J
    cases spot with
    | none=>rfl
    | some _=>simp at J
  obtain⟨rfl,wZ⟩:=akU;have ke:qZ w (fun b=>b<w.heap.size) (fun _ _=>False) (fun _ _=>none) ff off (P.cellsOf e) (l.map f):=(by have hle : ∀z∈l.map f,z.length=P.cellsOf e:=(by intro z cB;rw[List.mem_map] at cB;obtain⟨x,-,rfl⟩:=cB;exact he.size x);refine⟨hle,fun j x U=> ?_⟩;have ay:j<len*P.cellsOf e:=(by have:=f6 U;rw[vh _ hle,ap4,ko] at this;exact this);have aa:j / P.cellsOf e<len:=Nat.div_lt_of_lt_mul (by rw[Nat.mul_comm];exact ay);have aj:j % P.cellsOf e<P.cellsOf e:=Nat.mod_lt _ ly;have tV:j=j / P.cellsOf e*P.cellsOf e+j % P.cellsOf e:=(by rw[Nat.mul_comm];exact(Nat.div_add_mod j _).symm);have ZU:l[j / P.cellsOf e]? = some (l[j / P.cellsOf e]'(by omega)):=dz _;have amb:(l.map f)[j / P.cellsOf e]? = some (f (l[j / P.cellsOf e]'(by omega))):=OI ZU;obtain⟨y,v,e1,e2,bG,cM⟩:=(lq _ _ ZU).2 _ aj;have lA:=Gx hle amb aj;rw[<- tV,U,e1] at lA;obtain rfl:=dJ lA;refine⟨v,?_,bG,cM⟩;rw[uu,uu] at e2;rw[tV];rw[Nat.add_assoc] at e2;exact e2);have:=ke.isl (c:=cap) ⟨wZ,df he.pure l⟩ (by rw[ap4];omega);rw[ap4,ko] at this;exact this
theorem mj.aB {bf cx:List aF}{cs:List Value}{o n:Nat}(h1:mj w bf ((cs.drop o).take n))(h2:mj w cx (cs.drop (o+n)))(aU:bf.length=n):mj w (bf++cx) (cs.drop o):=by
 obtain⟨e1,e2⟩:=h1;obtain⟨f1,f2⟩:=h2;have aj7:cs.drop o=(cs.drop o).take n++cs.drop (o+n):=by rw[<- List.drop_drop,List.take_append_drop]
 rw[aj7];refine⟨by rw[dE,dE,e1,f1],fun j x v U bh=> ?_⟩;rw[List.getElem?_append] at U bh;rw[e1] at bh;split at U
 ·rename_i ay;rw[dw ay] at bh;exact e2 j x v U bh
 rename_i ay;rw[dA ay] at bh;exact f2 _ x v U bh
theorem NG {mO:Array Field}(cl:P.underlying t=some (.struct mO)){H:Type}{enc:TypeId×Value->H}{base:Nat}{spare:Nat->Bool}{held:Bool}{sP:Nat}{cs:List Value}{x:DataW H×List MemPlace}
 (h:DataW.trod enc P w base spare held sP t cs=some x) :
 cs.length=P.cellsOf t/\ ∀(i:Nat) (fd:Field),mO[i]? = some fd-> ∀ {α:Type} {f:α->List aF} {fp:α->Prop},r3 P w fd.type f fp-> ∃a,fp a/\mj w (f a) ((cs.drop fd.offset).take (P.cellsOf fd.type)):=by
 obtain⟨xs,n,-,-,h1,h2,J⟩:=DataW.trod_struct cl h;refine⟨h1,fun i fd yl α f fp ap=> ?_⟩;have aa:i<xs.length:=by rw[h2];exact(ap7.1 yl).1
 have ak:=J i fd yl;rw[dz aa] at ak;exact ap.opens ak
theorem wE {mO:Array Field}{cs:List Value}
 (h : ∀(i:Nat) (fd:Field),mO[i]? = some fd-> ∀ {α:Type} {f:α->List aF} {fp:α->Prop},r3 P w fd.type f fp-> ∃a,fp a/\mj w (f a) ((cs.drop fd.offset).take (P.cellsOf fd.type)))
 (i off n:Nat) {fd:Field} (yl:mO[i]? = some fd) (ap:fd.offset=off) (aU:P.cellsOf fd.type=n) {α:Type} {f:α->List aF} {fp:α->Prop} (o:r3 P w fd.type f fp) : ∃a,fp a/\mj w (f a) ((cs.drop off).take n):=by
 subst ap;subst aU;exact h i fd yl o
theorem mj.end_ {cs:List Value}{n:Nat}(h:cs.length<=n):mj w [] (cs.drop n):=by rw[List.drop_of_length_le h];exact .nil w
theorem afM {x:aF}{v:Value}(h:mj w [x] v.cells.toList)(bh:∀cs,v≠ .agg cs):Rel w (fun b=>b<w.heap.size) (fun _ _=>False) (fun _ _=>none) x v:=by
 have a0:v.cells.toList=[v]:=by cases v<;>first|rfl|exact absurd rfl (bh _)
 rw[a0] at h;exact(h.2 0 x v rfl rfl).2
theorem agH {c:List aF}{cs:Array Value}(h:mj w c (Value.agg cs).cells.toList):Rel w (fun b=>b<w.heap.size) (fun _ _=>False) (fun _ _=>none) (.agg c) (.agg cs):=by have a0:(Value.agg cs).cells.toList=cs.toList:=rfl;rw[a0] at h;have h2:=Rel.agg (c:=c) cs.toList h.1 (fun j v bh=>by have ay:=f6 bh;have U:c[j]? = some (c[j]'(by rw[<- h.1];exact ay)):=dz _;exact(h.2 j _ v U bh).1) (fun j x v U bh=>(h.2 j x v U bh).2);simpa using h2
theorem arg_one {α:Type}{f:α->aF}{F:α->List aF}{fp:α->Prop}(ap:r3 P w t F fp)(yF:∀a,F a=[f a]){H:Type}{enc:TypeId×Value->H}{base:Nat}{spare:Nat->Bool}{held:Bool}{v:Value}{d:DataW H}{kz:List MemPlace}
 (h:DataW.Trod enc P w base spare held t v d kz) (bh : ∀cs,v≠ .agg cs) : ∃a,fp a/\Rel w (fun b=>b<w.heap.size) (fun _ _=>False) (fun _ _=>none) (f a) v:=by
 obtain⟨sP,cq⟩:=h;obtain⟨a,h1,h2⟩:=ap.opens cq;rw[yF] at h2;exact⟨a,h1,afM h2 bh⟩
theorem arg_agg {α:Type}{F:α->List aF}{fp:α->Prop}(ap:r3 P w t F fp){H:Type}{enc:TypeId×Value->H}{base:Nat}{spare:Nat->Bool}{held:Bool}{cs:Array Value}{d:DataW H}{kz:List MemPlace}
 (h:DataW.Trod enc P w base spare held t (.agg cs) d kz) : ∃a,fp a/\Rel w (fun b=>b<w.heap.size) (fun _ _=>False) (fun _ _=>none) (.agg (F a)) (.agg cs):=by
 obtain⟨sP,cq⟩:=h;obtain⟨a,h1,h2⟩:=ap.opens cq;exact⟨a,h1,agH h2⟩
def DU (w:World)(args:List aF)(vs:List Value):Prop :=
 vs.length=args.length/\ ∀(j:Nat) x v,args[j]? = some x->vs[j]? = some v->Rel w (fun b=>b<w.heap.size) (fun _ _=>False) (fun _ _=>none) x v
theorem DU.nil:DU w [] []:=⟨rfl,fun j x v U=>by simp at U⟩
theorem DU.cons {x:aF}{v:Value}{args:List aF}{vs:List Value}(h:Rel w (fun b=>b<w.heap.size) (fun _ _=>False) (fun _ _=>none) x v)(t:DU w args vs):DU w (x::args) (v::vs):=by
 refine⟨by simp[t.1],fun j y u aV hu=> ?_⟩
 match j,aV,hu with
 | 0,aV,hu=>obtain rfl:=dJ aV;obtain rfl:=dJ hu;exact h
 | j+1,aV,hu=>exact t.2 j y u (by simpa using aV) (by simpa using hu)
theorem trod_lt' {H:Type}{enc:TypeId×Value->H}{base:Nat}{spare:Nat->Bool}{held:Bool}{v:Value}{d:DataW H}{kz:List MemPlace}(h:DataW.Trod enc P w base spare held t v d kz): ∀p∈kz,p.block<w.heap.size:=by obtain⟨sP,cq⟩:=h;exact DataW.trod_lt sP t v.cells.toList (d,kz) cq
theorem Con.row {f:FuncId}{args:List aF}{b:Bool}(h:Con P f args [] (.b b) []){vs:List Value}(bF:DU w args vs):
 Calls P f vs.toArray w fun e bZ=>e = .returned (.bool b)/\Below w.heap.size w bZ:=by
 let g:G:={og:=w,A:=fun b=>b<w.heap.size,sj:=fun _=>False,N:=0,m:=0,rA:=(f7 []).bg,uL:=(f7 []).bn fun _ _=>none}
 have bt : ∀r k,(f7 []).ao r k=none:=by intro r k;simp[S.ao,f7,d8]
 have eG:jX g (f7 []) (fun _ _=>none) w:=by
  have k5 : ∀j k,¬(f7 []).bg j k:=fun j k ay=>(by simp[S.bg,f7] at ay);refine⟨?_,?_,?_,⟨rfl,rfl,rfl,dD _,fun _ _ _=>rfl⟩,?_,?_,?_,?_⟩
  ·intro r k o ap;rw[bt] at ap;simp at ap
  ·intro r k o fH ea cp b m aH ap;rw[bt] at ap;simp at ap
  ·intro r k o b m ap;rw[bt] at ap;simp at ap
  ·intro b a3;exact a3.elim
  ·intro b a3;exact a3
  ·intro j k ay;exact absurd ay (k5 j k)
  intro j k ay;exact absurd ay (k5 j k)
 have a0:=h.2 g (fun _ _=>none) w vs.toArray rfl rfl rfl rfl eG (by simpa using bF.1) (fun j x v U bh=>(bF.2 j x v U (by simpa using bh)).mono
  (fun b a3=>⟨a3,.inl a3,fun aR=>by obtain⟨r,k,o,m,h1,-⟩:=aR;rw[bt] at h1;simp at h1⟩) (fun _ _=>rfl) (fun r k aj=>aj.elim) (fun r k aj=>aj.elim))
 refine a0.mono fun e bZ a1=> ?_;obtain⟨v,b6,rfl,h1,h2⟩:=a1;have bh:=h2.x7;subst bh;exact⟨rfl,h1.iC.os,h1.iC.tape,h1.iC.output,h1.iC.size,fun k a2=>h1.iC.block k a2 id⟩
end
abbrev apI:aS:=⟨0,[],.gone⟩
abbrev bB:=Option (Nat×Nat)
abbrev ji (c8 c sz:Nat)(h:bB):aF:= .kx c8 c sz h
def bR (c8 c sz:Nat)(h:bB):List aF:=[ji c8 c sz h]
theorem OJ {c8 c sz:Nat}{h:bB}(e:h=none):k4 (ji c8 c sz h) (.isl sz []):=by rw[e];exact .n1 _ _ _
theorem lV {c8 c sz:Nat}{h:bB}{p:Nat×Nat}(e:h=some p):k4 (ji c8 c sz h) (.br c8 (p.1+c) 0 p.2):=by rw[e];exact .s1 _ _ _ _ _
theorem YW {x v:aF}(e:x=v):k4 x v:=e▸ .refl x
def EL:List aF->List aF->Prop
 | [],[]=>True
 | a::l,b::m=>k4 a b/\EL l m
 | _,_=>False
theorem EL.at_ : ∀ {l m:List aF},EL l m->m.length=l.length/\ ∀(j:Nat) x de,l[j]? = some x->m[j]? = some de->k4 x de
 | [],[],_=>⟨rfl,fun j x de h=>by simp at h⟩
 | a::l,b::m,h=>⟨by simp[(EL.at_ h.2).1],fun j x de U eT=>by
  cases j with
  | zero=>simp at U eT;subst U;subst eT;exact h.1
  | succ j=>exact(EL.at_ h.2).2 j x de (by simpa using U) (by simpa using eT)⟩
 | [],_::_,h=>h.elim
 | _::_,[],h=>h.elim
theorem KT {l m:List aF}(h:EL l m):k4 (.agg l) (.agg m):= .agg h.at_.1 h.at_.2
theorem Pf {b1:Nat->Option Nat}{c8 nx c sz:Nat}(cl:b1 c8=some nx)(h:bB):pb b1 (ji c8 c sz h)=ji nx c sz h:=by simp only[ji,pb,cl]
theorem K9 {a4:iq}{c8 nx c ez sz:Nat}(hm:∀k,a4 nx (k+ez)=some (c8,k+c))(h:bB):EJ a4 (ji c8 c sz h) (ji nx ez sz h):= .inr (.inr (.inr ⟨c8,c,sz,h,nx,ez,rfl,hm,rfl⟩))
theorem La (c8 c sz:Nat)(h:bB):bx (ji c8 c sz h):= .kx _ _ _ _
def li {α:Type}(cL:hr)(sz:Nat)(f:α->List aF)(l:List α):aS:=⟨sz,l.map f,cL⟩
section
variable {α:Type} {sz:Nat} {cL:hr} {f:α->List aF} {P:List (List α)} {raw:List aS}
theorem j9 (e:raw=P.map (li cL sz f))(a2:cL≠ .gone){k:Nat}{l:List α}(h:P[k]? = some l):d8 (some raw) k=some (aS.mk sz (l.map f) cL):=by rw[e,ml,dK,h];exact dA a2
theorem iO:hr.live≠ .gone:=by simp
theorem pw (e:raw=P.map (li cL sz f))(k:Nat){l:List α}{es:List (List aF)}(aR:es=l.map f):raw.set k (aS.mk sz es cL)=(P.set k l).map (li cL sz f):=by rw[e,aR,List.map_set];rfl
theorem KU (cL:hr)(sz:Nat)(f:α->List aF):([]:List aS)=([]:List (List α)).map (li cL sz f):=rfl
theorem z0 (e:raw=P.map (li cL sz f)){n:Nat}(h:n=P.length):raw.length=n:=by rw[e,h,ap4]
theorem ais (a b n:Nat): ∀ {x:aF},Pure x->mI a b n x=x:=by
 intro x h;have aR : ∀c:List aF,(∀x∈c,mI a b n x=x)->mI.ED a b n c=c:=by intro c a0;rw[KP];exact(ap8 a0).trans (List.map_id _)
 induction h with
 | agg h ih=>rw[mI,aR _ ih]
 | dd h ih=>rw[mI,aR _ ih]
 | _=>rfl
theorem ait (ah:∀x,∀v∈f x,Pure v)(a b n:Nat){es:List (List aF)}{l:List α}(e:es=l.map f):es.map (fun e=>e.map (mI a b n))=l.map f:=by rw[e,List.map_map];refine ap8 fun x _=> ?_;exact(ap8 fun v bh=>ais a b n (ah x v bh)).trans (List.map_id _)
theorem xY (e:raw=P.map (li cL sz f)){Q:List (List α)}{r2:List aS}(h:r2=Q.map (li cL sz f)):raw++r2=(P++Q).map (li cL sz f):=by rw[e,h,List.map_append]
theorem wV (ah:∀x,∀v∈f x,Pure v)(a b n:Nat){es:List (List aF)}{l:List α}(h:es=l.map f){r2:List aS}{Q:List (List α)}(t:r2.map (oC a b n)=Q.map (li cL sz f)):
 (aS.mk sz es cL::r2).map (oC a b n)=(l::Q).map (li cL sz f):=by
 simp only[List.map_cons,t,oC,ait ah a b n h];rfl
theorem x9 (a b n:Nat):([]:List aS).map (oC a b n)=([]:List (List α)).map (li cL sz f):=rfl
def iM (P:List (List α)):bB->List α
 | none=>[]
 | some (k,n)=>(P.getD k []).take n
def qR (P:List (List α)):bB->Bool
 | none=>true
 | some (k,n)=>decide (k<P.length) && decide (n<=(P.getD k []).length)
def yr (c8:Nat)(jY:List aS)(bJ:hr->Bool):List aF->List aF->Prop
 | [],[]=>True
 | a::l,b::m=>H5 c8 jY bJ a b/\yr c8 jY bJ l m
 | _,_=>False
theorem XJ {c8:Nat}{jY:List aS}{bJ:hr->Bool}: ∀ {l m:List aF},yr c8 jY bJ l m->m.length=l.length
 | [],[],_=>rfl
 | _::_,_::_,h=>by simp[XJ h.2]
 | [],_::_,h=>h.elim
 | _::_,[],h=>h.elim
theorem Ym {c8:Nat}{jY:List aS}{bJ:hr->Bool}: ∀ {l m:List aF},yr c8 jY bJ l m-> ∀(j:Nat) x de,l[j]? = some x->m[j]? = some de->H5 c8 jY bJ x de
 | _::_,_::_,h,0,x,de,h1,h2=>by simp at h1 h2;subst h1;subst h2;exact h.1
 | _::_,_::_,h,j+1,x,de,h1,h2=>Ym h.2 j x de (by simpa using h1) (by simpa using h2)
 | [],_,_,_,_,_,h1,_=>by simp at h1
theorem Yn {c8:Nat}{jY:List aS}{bJ:hr->Bool}{x:aF}(h:x.j7=true):H5 c8 jY bJ x x:= .inl ⟨rfl,h⟩
theorem Lb {c8 c:Nat}{nN:List aS}{bJ:hr->Bool}(e:raw=P.map (li cL sz f))(ah:∀x,∀v∈f x,Pure v)(a0:nN.length=c)(a2:cL≠ .gone)(bF:bJ cL=true): ∀ {h:bB},qR P h=true ->
 H5 c8 (nN++raw) bJ (ji c8 c sz h) (.isl sz ((iM P h).map f))
 | none,_=> .inr (.inl ⟨c,sz,rfl,rfl⟩)
 | some (k,n),lZ=>by
  simp only[qR,dN,decide_eq_true_eq] at lZ;obtain⟨h1,h2⟩:=lZ;have ZV:P[k]? = some P[k]:=dz h1;have du:P.getD k []=P[k]:=(by simp[List.getD,ZV]);rw[du] at h2;refine .inr (.inr ⟨k+c,0,n,aS.mk sz (P[k].map f) cL,.inr ⟨c,sz,k,rfl,rfl,rfl⟩,?_,bF,by simpa using h2,?_,?_⟩)
  ·have:=j9 e a2 ZV;rw[ml] at this ⊢;rw[ap0 (by omega),a0,show k+c-c=k by omega];exact this
  ·intro e he x U;rw[List.drop_zero] at he;have he:=List.mem_of_mem_take he;rw[List.mem_map] at he;obtain⟨y,-,rfl⟩:=he;exact ah y x U
  simp only[iM,du,List.drop_zero,List.map_take]
end
theorem uA {α β:Type}{f:α->List aF}{g:β->List aF}{v:α->β}{c8:Nat}{jY:List aS}{bJ:hr->Bool}{sz:Nat}{raw:List (List aF)}{xs:List α}(e:raw=xs.map f)(du:∀y,(g y).length=sz)
 (h : ∀x∈xs,yr c8 jY bJ (f x) (g (v x))) {n:Nat} (aU:n=xs.length):IY c8 jY bJ sz ((raw.drop 0).take n) ((xs.map v).map g):=by
 have e0:(raw.drop 0).take n=xs.map f:=by rw[List.drop_zero,aU,e,apW (by simp)]
 rw[e0];have cq : ∀x∈xs,(f x).length=sz:=fun x U=>by rw[<- XJ (h x U),du]
 refine⟨by simp,fun e he=> ?_,fun j x de U eT=> ?_⟩
 ·rw[List.mem_map] at he;obtain⟨y,-,rfl⟩:=he;exact du y
 rcases Nat.eq_zero_or_pos sz with h0|bM
 ·have : ∀l:List α,(∀x∈l,(f x).length=sz)->(l.map f).flatten=[]:=by
   intro l aR
   induction l with
   | nil=>rfl
   | cons a l ih =>
    have h1:=aR a (by simp);rw[h0] at h1;rw[List.map_cons,apZ,ih fun x U=>aR x (by simp[U]),dM.1 h1];rfl
  rw[this xs cq] at U;simp at U
 rw[rS bM _ (by intro e he;rw[List.mem_map] at he;obtain⟨y,aV,rfl⟩:=he;exact cq y aV)] at U;rw[rS bM _ (by intro e he;rw[List.mem_map] at he;obtain⟨y,-,rfl⟩:=he;exact du y)] at eT;rw[dK,dK] at eT;rw[dK] at U
 cases aV:xs[j / sz]? with
 | none=>rw[aV] at U;simp at U
 | some y =>
  rw[aV] at U eT;simp only[apR,dx] at U eT;exact Ym (h y (dH aV)) _ x de U eT
section
variable {b1:Nat->Option Nat}
theorem oo:([]:List aS)=([]:List aS).map (k6 b1):=rfl
theorem fQ {o cp:aS}{l gL:List aS}(h:cp=k6 b1 o)(t:gL=l.map (k6 b1)):cp::gL=(o::l).map (k6 b1):=by rw[h,t];rfl
theorem YX {α:Type}{sz:Nat}{cL:hr}{f lF:α->List aF}{raw:List (List aF)}{xs:List α}(e:raw=xs.map f)(h:∀x,(f x).map (pb b1)=lF x):aS.mk sz (xs.map lF) cL=k6 b1 (aS.mk sz raw cL):=by simp only[k6,e,List.map_map,aS.mk.injEq,true_and,and_true];exact ap8 fun x _=>(h x).symm
theorem mC {α:Type}{cL:hr}{sz:Nat}{f:α->List aF}{raw:List aS}{P:List (List α)}(e:raw=P.map (li cL sz f))(h:∀x,(f x).map (pb b1)=f x):P.map (li cL sz f)=raw.map (k6 b1):=by rw[e,List.map_map];refine ap8 fun l _=> ?_;exact YX rfl h
theorem wF:mE []:=fun o h=>by simp at h
theorem ls {o:aS}{l:List aS}(h:o.cL = .live)(t:mE l):mE (o::l):=fun p ah=>by
 rcases dS.1 ah with e|e
 ·rw[e];exact .inl h
 exact t p e
theorem wA {α:Type}{sz:Nat}{f:α->List aF}{raw:List aS}{P:List (List α)}(e:raw=P.map (li .live sz f)):mE raw:=fun o ap=>by rw[e,List.mem_map] at ap;obtain⟨l,-,rfl⟩:=ap;exact .inl rfl
end
section
variable {a4:iq}
theorem KV:sf a4 [] []:=⟨rfl,fun k o cp h=>by simp at h⟩
def ZW (a4:iq)(o cp:aS):Prop:=cp.sz=o.sz/\cp.cL=o.cL/\cp.es.length=o.es.length/\(∀e∈cp.es,e.length=o.sz) /\
 ∀(j:Nat) x de,o.es.flatten[j]? = some x->cp.es.flatten[j]? = some de->EJ a4 x de
theorem Ky {o cp:aS}{l gL:List aS}(h:ZW a4 o cp)(t:sf a4 l gL):sf a4 (o::l) (cp::gL):=by
 refine⟨by simp[t.1],fun k p mf ah nb=> ?_⟩
 cases k with
 | zero=>simp at ah nb;subst ah;subst nb;exact h
 | succ k=>exact t.2 k p mf (by simpa using ah) (by simpa using nb)
def ys (a4:iq):List aF->List aF->Prop
 | [],[]=>True
 | a::l,b::m=>EJ a4 a b/\ys a4 l m
 | _,_=>False
theorem XK : ∀ {l m:List aF},ys a4 l m->m.length=l.length
 | [],[],_=>rfl
 | _::_,_::_,h=>by simp[XK h.2]
 | [],_::_,h=>h.elim
 | _::_,[],h=>h.elim
theorem Yo : ∀ {l m:List aF},ys a4 l m-> ∀(j:Nat) x de,l[j]? = some x->m[j]? = some de->EJ a4 x de
 | _::_,_::_,h,0,x,de,h1,h2=>by simp at h1 h2;subst h1;subst h2;exact h.1
 | _::_,_::_,h,j+1,x,de,h1,h2=>Yo h.2 j x de (by simpa using h1) (by simpa using h2)
 | [],_,_,_,_,_,h1,_=>by simp at h1
theorem Ho {α:Type}{sz:Nat}{cL:hr}{f lF:α->List aF}{raw:List (List aF)}{xs:List α}(e:raw=xs.map f)(aR:∀x,(lF x).length=sz)(h:∀x,ys a4 (f x) (lF x)):ZW a4 (aS.mk sz raw cL) (aS.mk sz (xs.map lF) cL):=by
 subst e;refine⟨rfl,rfl,by simp,fun e he=> ?_,fun j x de U eT=> ?_⟩
 ·simp only[List.mem_map] at he;obtain⟨y,-,rfl⟩:=he;exact aR y
 simp only at U eT;rcases Nat.eq_zero_or_pos sz with h0|bM
 ·have:(xs.map lF).flatten=[]:=by
   induction xs with
   | nil=>rfl
   | cons a l ih =>
    have h1:=aR a;rw[h0] at h1
    have h2:(l.map lF).flatten=[]:=by
     clear ih U eT
     induction l with
     | nil=>rfl
     | cons b l ih =>
      have h1:=aR b;rw[h0] at h1;rw[List.map_cons,apZ,ih,dM.1 h1];rfl
    rw[List.map_cons,apZ,h2,dM.1 h1];rfl
  rw[this] at eT;simp at eT
 have amc : ∀x,(f x).length=sz:=fun x=>by rw[<- XK (h x),aR]
 rw[rS bM _ (by intro e he;rw[List.mem_map] at he;obtain⟨y,-,rfl⟩:=he;exact amc y)] at U;rw[rS bM _ (by intro e he;rw[List.mem_map] at he;obtain⟨y,-,rfl⟩:=he;exact aR y)] at eT;rw[dK] at U eT
 cases aV:xs[j / sz]? with
 | none=>rw[aV] at U;simp at U
 | some y =>
  rw[aV] at U eT;simp only[apR,dx] at U eT;exact Yo (h y) _ x de U eT
theorem aiu {l:List aF}(h:∀v∈l,v.j7=true):ys a4 l l:=by
 induction l with
 | nil=>trivial
 | cons a l ih=>exact⟨.inl ⟨rfl,h a (by simp)⟩,ih fun v bh=>h v (by simp[bh])⟩
theorem Kz {α:Type}{cL:hr}{sz:Nat}{f:α->List aF}{raw:List aS}{P:List (List α)}(e:raw=P.map (li cL sz f))(aR:∀x,(f x).length=sz)(aU:∀x,∀v∈f x,v.j7=true):sf a4 raw (P.map (li cL sz f)):=by subst e;refine⟨rfl,fun k o cp ap e6=> ?_⟩;rw[ap] at e6;simp at e6;subst e6;rw[dK,dP] at ap;obtain⟨l,-,rfl⟩:=ap;exact Ho rfl aR fun x=>aiu (aU x)
end
theorem re:oO []:=fun row h=>by simp at h
theorem rb {row:List aS}{T:List (List aS)}(h:∀o∈row,∀e∈o.es,∀x∈e,bx x)(t:oO T):oO (row::T):=fun r aj=>by
 rcases dS.1 aj with e|e
 ·rw[e];exact h
 exact t r e
theorem uv : ∀o∈([]:List aS),∀e∈o.es,∀x∈e,bx x:=fun o h=>by simp at h
theorem nn {o:aS}{row:List aS}(h:∀e∈o.es,∀x∈e,bx x)(t:∀o∈row,∀e∈o.es,∀x∈e,bx x): ∀p∈o::row,∀e∈p.es,∀x∈e,bx x:=fun p ah=>by
 rcases dS.1 ah with e|e
 ·rw[e];exact h
 exact t p e
theorem m7 {α:Type}{sz:Nat}{cL:hr}{f:α->List aF}{xs:List α}(h:∀x,∀v∈f x,bx v): ∀e∈(aS.mk sz (xs.map f) cL).es,∀x∈e,bx x:=fun e he x U=>by simp only[List.mem_map] at he;obtain⟨y,-,rfl⟩:=he;exact h y x U
theorem Kk {α:Type}{cL:hr}{sz:Nat}{f:α->List aF}{P:List (List α)}(h:∀x,∀v∈f x,bx v): ∀o∈P.map (li cL sz f),∀e∈o.es,∀x∈e,bx x:=fun o ap=>by rw[List.mem_map] at ap;obtain⟨l,-,rfl⟩:=ap;exact m7 h
theorem vC : ∀x,∀v∈eI x,bx v:=fun x v h=>by simp[eI] at h;subst h;exact .n _ _
theorem kC : ∀x,∀v∈eI x,v.j7=true:=fun x v h=>by simp[eI] at h;subst h;rfl
theorem Pg : ∀x,∀v∈gA x,v.j7=true:=fun x v h=>by simp[gA] at h;subst h;rfl
theorem GY : ∀x∈([]:List aF),bx x:=fun x h=>by simp at h
theorem rV {a:aF}{l:List aF}(h:bx a)(t:∀x∈l,bx x): ∀x∈a::l,bx x:=fun x U=>by
 rcases dS.1 U with e|e
 ·rw[e];exact h
 exact t x e
theorem vD {b1:Nat->Option Nat}{c8 nx c sz:Nat}(cl:b1 c8=some nx)(h:bB):(bR c8 c sz h).map (pb b1)=bR nx c sz h:=by simp only[bR,List.map_cons,List.map_nil,Pf cl]
theorem Lc {a4:iq}{c8 nx c ez sz:Nat}(hm:∀k,a4 nx (k+ez)=some (c8,k+c))(h:bB):ys a4 (bR c8 c sz h) (bR nx ez sz h):=⟨K9 hm h,trivial⟩
theorem EM {α:Type}{sz:Nat}{cL:hr}{f:α->List aF}{P:List (List α)}{raw:List aS}{c8 c:Nat}{nN:List aS}{bJ:hr->Bool}(e:raw=P.map (li cL sz f))(ah:∀x,∀v∈f x,Pure v)(a0:nN.length=c)(a2:cL≠ .gone)(bF:bJ cL=true)
 {h:bB} (aa:qR P h=true):yr c8 (nN++raw) bJ (bR c8 c sz h) (fy sz f (iM P h)):=⟨Lb e ah a0 a2 bF aa,trivial⟩
theorem tE {α:Type}{p:α->Bool}{l:List α}(h:l.all p=true): ∀x∈l,p x=true:=List.all_eq_true.1 h
theorem l9 {α:Type}{f:α->List aF}(h:∀x,∀v∈f x,v.j7=true){b1:Nat->Option Nat}(x:α):(f x).map (pb b1)=f x:=by refine(ap8 fun v bh=> ?_).trans (List.map_id _);have:=h x v bh;cases v<;>simp[aF.j7] at this<;>simp[pb,aF.j7]
def ag:Nat->List (fY×Bool)->List (fY×Bool)
 | 0,l=>l
 | n+1,l=>anr::ag n l
def dU:Nat->List (fY×Bool)->List (fY×Bool)
 | 0,l=>l
 | n+1,l=>ans::dU n l
def af (a:fY)(l:List (fY×Bool)):List (fY×Bool):=(a,true)::l
def hs (n:Nat)(r:aF)(ef:Bool)(ex:List Nat:=[]):fY:= .call {ac:=List.replicate n ii,r:=r,ef:=ef,ex:=ex}
def bj:List Nat->List (Nat×ni)
 | []=>[]
 | n::l=>(n,ii)::bj l
def amd (n:Nat):ni:= .bf (.bV (.len n))
structure tc where
 x:Option Nat
 env:List (Nat×aF)
 rows:List (List aS)
def tc.e (o:tc):Bb:=match o.x with
 | some i=> .exit i
 | none=> .ret
def tc.da (o:tc):S:=dj o.env o.rows
def tc.ant (o:tc):bE:= .sub o.e o.env o.rows
theorem tc.ne (o:tc):o.e.x≠ .normal:=by unfold tc.e;split<;>simp[Bb.x]
section
variable {P:Program} {N m:Nat} {α β:Type}
def aaJ (P:Program)(N m f:Nat)(p:List Nat)(s:S)(head:α->S)(out:β->tc):α⊕β->Prop
 | .inl a=>k9 P N m (nodeAt (OX P f) p) .normal s (head a)
 | .inr r=>k9 P N m (nodeAt (OX P f) p) (out r).e.x s (out r).da
def aaK (P:Program)(N m f:Nat)(p:List Nat)(head:α->S)(out:β->tc)(a:α)(r:β):Prop :=
 k9 P N m (.loop (nodeAt (OX P f) p)) (out r).e.x (head a) (out r).da
theorem aiv {f:Nat}{p:List Nat}{b:α->Option (α⊕β)}{head:α->S}{out:β->tc}(h:∀a,bl (b a) (aaJ P N m f p (head a) head out)){a:α}{r:β}(aj:iter b a=some r):aaK P N m f p head out a r :=
 (ajm (head:=head) (jL:=fun r=>(out r).e.x) (out:=fun r=>(out r).da) (fun r=>(out r).ne) (fun a r aj=>by
   have:=h a r aj
   cases r with
   | inl eF=>exact this
   | inr fH=>exact this) a r aj).ama
end
theorem Yq {a b c:Nat}(h:a+b<=c):a<=c:=by omega
theorem Yr {bT:Type}{rx nD:List (List aF)}{f:bT->List aF}{xs bw:List bT}(jL:rx=xs.map f)(kM:nD=bw.map f){n:Nat}(h:n+bw.length<=xs.length):n+nD.length<=rx.length:=by rw[jL,kM];simpa using h
theorem Xa {bT:Type}{nD:List (List aF)}{f:bT->List aF}{bw:List bT}(kM:nD=bw.map f){b c:Nat}(h:bw.length*b<=c):nD.length*b<=c:=by rw[kM];simpa using h
theorem aj8 {bT:Type}{rx nD:List (List aF)}{f:bT->List aF}{xs bw:List bT}(jL:rx=xs.map f)(kM:nD=bw.map f):nD++rx.drop nD.length=(bw++xs.drop bw.length).map f:=by rw[jL,kM];simp
theorem akV {bT:Type}{nD:List (List aF)}{f:bT->List aF}{bw:List bT}(kM:nD=bw.map f){n:Nat}(h:bw.length<=n):nD.length<=n:=by rw[kM];simpa using h
theorem Ys {bT:Type}{xs bw:List bT}{n m:Nat}(aU:n=xs.length)(hm:m<=n)(h:bw.length<=m):n=(bw++xs.drop bw.length).length:=by simp;omega
theorem aj9 {bT:Type}{rx:List (List aF)}{f:bT->List aF}{xs:List bT}(jL:rx=xs.map f){n:Nat}(h:n=xs.length):rx.length=n:=by rw[jL];simp[h]
section
variable {a b c d e f g h i j:Prop} {l:List Prop}
theorem cn.e1 (x1:a):cn [a]:= .c x1 .nil
theorem cn.cx (x1:a)(x2:b)(t:cn l):cn (a::b::l):= .c x1 (.c x2 t)
theorem cn.e2 (x1:a)(x2:b):cn [a,b]:= .cx x1 x2 .nil
theorem cn.kO (x1:a)(x2:b)(an:c)(t:cn l):cn (a::b::c::l):= .c x1 (.cx x2 an t)
theorem cn.bG (x1:a)(x2:b)(an:c):cn [a,b,c]:= .kO x1 x2 an .nil
theorem cn.ta (x1:a)(x2:b)(an:c)(fZ:d)(t:cn l):cn (a::b::c::d::l):= .c x1 (.kO x2 an fZ t)
theorem cn.cM (x1:a)(x2:b)(an:c)(fZ:d):cn [a,b,c,d]:= .ta x1 x2 an fZ .nil
theorem cn.q3 (x1:a)(x2:b)(an:c)(fZ:d)(eR:e)(t:cn l):cn (a::b::c::d::e::l):= .c x1 (.ta x2 an fZ eR t)
theorem cn.db (x1:a)(x2:b)(an:c)(fZ:d)(eR:e):cn [a,b,c,d,e]:= .q3 x1 x2 an fZ eR .nil
theorem cn.xr (x1:a)(x2:b)(an:c)(fZ:d)(eR:e)(b0:f)(t:cn l):cn (a::b::c::d::e::f::l):= .c x1 (.q3 x2 an fZ eR b0 t)
theorem cn.eJ (x1:a)(x2:b)(an:c)(fZ:d)(eR:e)(b0:f):cn [a,b,c,d,e,f]:= .xr x1 x2 an fZ eR b0 .nil
theorem cn.aY (x1:a)(x2:b)(an:c)(fZ:d)(eR:e)(b0:f)(dX:g)(mQ:h)(t:cn l):cn (a::b::c::d::e::f::g::h::l):= .cx x1 x2 (.xr an fZ eR b0 dX mQ t)
theorem cn.eU (x1:a)(x2:b)(an:c)(fZ:d)(eR:e)(b0:f)(dX:g):cn [a,b,c,d,e,f,g]:= .c x1 (.eJ x2 an fZ eR b0 dX)
theorem cn.gw (x1:a)(x2:b)(an:c)(fZ:d)(eR:e)(b0:f)(dX:g)(mQ:h):cn [a,b,c,d,e,f,g,h]:= .cx x1 x2 (.eJ an fZ eR b0 dX mQ)
end
section
variable {α bT:Type}
theorem el (f:bT->List aF)(l:List bT):l.map f=l.map f:=rfl
theorem eV (l:List bT):l.length=l.length:=rfl
theorem QU (cL:hr)(sz:Nat)(f:bT->List aF)(P:List (List bT)):P.map (li cL sz f)=P.map (li cL sz f):=rfl
theorem ht (x:α):x=x:=rfl
theorem cc:true=true:=rfl
theorem ga:false=false:=rfl
theorem bO (f:bT->List aF){l:List bT}{i:Nat}{x:bT}(h:l[i]? = some x):(l.map f)[i]? = some (f x):=OI h
theorem c3 (f:bT->List aF){l:List bT}{j:Int}(h:j<l.length):j<((l.map f).length:Nat):=XG h
theorem hD (f:bT->List aF){l:List bT}{j:Nat}(h:j<l.length):j<(l.map f).length:=Yk h
theorem anu (sz:Nat)(cL:hr){raw:List (List aF)}{f:bT->List aF}{l:List bT}(e:raw=l.map f):[aS.mk sz raw cL]=[aS.mk sz (l.map f) cL]:=ajo e
theorem v8 (sz:Nat)(cL:hr){f:bT->List aF}(cq:∀x,∀v∈f x,Pure v)(l:List bT):DT [aS.mk sz (l.map f) cL]:=aiq cq l
theorem ej (sz:Nat){f:bT->List aF}(cq:∀x,∀v∈f x,Pure v)(l:List bT):xQ [aS.mk sz (l.map f) .live]:=aho cq l
theorem XL {β:Type}{f:α->List aF}{g:β->List aF}{v:α->β}{c8:Nat}{jY:List aS}{bJ:hr->Bool}{sz:Nat}{raw:List (List aF)}{l:List α}(e:raw=l.map f)(du:∀y,(g y).length=sz)(cb n:Nat)
 (h : ∀x∈(l.drop cb).take n,yr c8 jY bJ (f x) (g (v x))):IY c8 jY bJ sz ((raw.drop cb).take n) ((((l.drop cb).take n).map v).map g):=by
 have h2:=uA (c8:=c8) (jY:=jY) (bJ:=bJ) (raw:=(raw.drop cb).take n) (xs:=(l.drop cb).take n) (f:=f) (oZ e cb n) du h rfl;rw[List.drop_zero,apW (by rw[oZ e cb n,ap4];exact dD _)] at h2;exact h2
theorem uT {sz:Nat}{f:bT->List aF}{x:Option bT}(h:x=none):k4 (hl sz f x) (.f8 sz none):=YW (ajq h)
theorem ame {sz:Nat}{f:bT->List aF}{x:Option bT}{y:bT}(h:x=some y):k4 (hl sz f x) (.f8 sz (some (f y))):=YW (ajr h)
theorem lc {b1:Nat->Option Nat}(sz:Nat)(cL:hr){f:bT->List aF}(lF:bT->List aF){raw:List (List aF)}{xs:List bT}(e:raw=xs.map f)(h:∀x,(f x).map (pb b1)=lF x):aS.mk sz (xs.map lF) cL=k6 b1 (aS.mk sz raw cL):=YX e h
end
def au {bT:Type}(s:Nat)(f:bT->List aF)(l:List bT):List aS:=[aS.mk s (l.map f) .live]
def cg {bT:Type}(s:Nat)(f:bT->List aF)(l:List bT):aS:=aS.mk s (l.map f) .live
def cU {bT:Type}(s:Nat)(f:bT->List aF)(P:List (List bT)):List aS:=P.map (li .live s f)
def I (n:Nat):bE:= .ai (ag n [])
def bH (a:Nat)(x:fY)(b:Nat):List (fY×Bool):=ag a (af x (ag b []))
def jf:List Nat->List Src
 | []=>[]
 | n::l=> .row n::jf l
def po (l:List Nat):Nat->Option Nat:=rr 0 (jf l)
def h6 (l:List Nat):Nat->Option Nat:=wS (jf l)
section
variable {bT:Type}
theorem yG (T:Nat->Option Nat)(a d b c:Nat)(h:T d=some a)(a8:List bB):aS.mk 1 (a8.map (bR a b c)) .live=k6 T (aS.mk 1 (a8.map (bR d b c)) .live):=lc 1 .live (bR a b c) (el (bR d b c) a8) (vD h)
theorem ld (T:Nat->Option Nat)(s:Nat){f:bT->List aF}(g:∀x,∀v∈f x,v.j7=true)(a8:List bT):aS.mk s (a8.map f) .live=k6 T (aS.mk s (a8.map f) .live):=lc s .live f (el f a8) (l9 g)
theorem eW (T:Nat->Option Nat)(a d b c:Nat)(h:T d=some a)(a8:List bB):[aS.mk 1 (a8.map (bR a b c)) .live]=[aS.mk 1 (a8.map (bR d b c)) .live].map (k6 T):=fQ (yG T a d b c h a8) oo
theorem eg (T:Nat->Option Nat)(s:Nat){f:bT->List aF}(g:∀x,∀v∈f x,v.j7=true)(P:List (List bT)):P.map (li .live s f)=(P.map (li .live s f)).map (k6 T):=mC (QU .live s f P) (l9 g)
theorem lG (T:Nat->Option Nat)(s:Nat)(v w:List (List aF))(h:aS.mk s v .live=k6 T (aS.mk s w .live)):[aS.mk s v .live]=[aS.mk s w .live].map (k6 T):=fQ h oo
theorem sm (s:Nat)(f:bT->List aF)(P:List (List bT)):mE (P.map (li .live s f)):=wA (QU .live s f P)
theorem lS (s:Nat)(v:List (List aF)):mE [aS.mk s v .live]:=ls rfl wF
theorem f5 (f:bT->List aF)(l:List bT):l.map f=((l.map f).drop 0).take l.length:=nJ (el f l) (eV l)
theorem fo (f:bT->List aF)(l:List bT):0+l.length<=(l.map f).length:=m2 (el f l) (eV l)
theorem ic (f:bT->List aF)(l:List bT):l.length<=(l.map f).length:=n4 (el f l) (eV l)
theorem fK (bT:Type):0=([]:List bT).length:=rfl
theorem hJ (f:bT->List aF):([]:List (List aF))=([]:List bT).map f:=rfl
theorem anv (f:bT->List aF)(x:bT):1<=[f x].length:=dD _
theorem yH (f:bT->List aF)(x:bT):([f x].drop 0).take 1=[x].map f:=rfl
theorem hB (f:bT->List aF)(x:bT):0+1<=[f x].length:=dD _
theorem hT (f:bT->List aF)(l:List bT)(x:bT):(l++([x]:List bT)).length=l.length+(([f x].drop 0).take 1).length:=np (eV l) (yH f x)
theorem amf (f:bT->List aF){l:List bT}{n:Nat}(h:n<=l.length)(x:bT):(l.take n++([x]:List bT)).length=n+(([f x].drop 0).take 1).length:=Ou h (yH f x)
theorem ir (f:bT->List aF)(l:List bT)(x:bT):(l.map f).take l.length++([f x].drop 0).take 1=(l++[x]).map f:=n3 (el f l) (eV l) (yH f x)
end
structure dW (α β:Type) where
 h:α->S
 o:β->tc
section
variable {P:Program} {N m:Nat} {α β:Type}
def dW.t (x:dW α β)(r:β):bE:=(x.o r).ant
abbrev dZ (P:Program)(N m f:Nat)(p:List Nat)(x:dW α β)(a:α):α⊕β->Prop:=aaJ P N m f p (x.h a) x.h x.o
theorem cK {f:Nat}{p:List Nat}{b:α->Option (α⊕β)}{x:dW α β}{a:α}{r:β}(aj:iter b a=some r)(h:∀ {a},bl (b a) (dZ P N m f p x a)):aaK P N m f p x.h x.o a r:=aiv (fun _=>h) aj
end
def _root_.List.aJ {bT:Type}(a b:List bT):List bT:=a.append b
def ey:List u5:=[.id,.id,.id,.id,.id]
def kJ:List u5:=[.id,.id,.id,.id,.id,.id]
def vS (a b:Nat):oy:={kY:=some (a,b)}
def qg (l:List (Nat×Nat)):oy:={bD:=l}
def Qc (l:List (Nat×Nat))(a b:Nat):oy:={bD:=l,kY:=some (a,b)}
theorem nc:(1000000000:Int)≠0:=by decide
theorem nV {bT:Type}(f:bT->List aF)(l:List bT):(([]:List (List aF)).take 0)++l.map f=([]++l).map f:=n3 (hJ f) (fK bT) (el f l)
theorem aq (s:Nat){bT:Type}{f:bT->List aF}(cq:∀x,∀v∈f x,Pure v)(l:List bT):DT [aS.mk s (l.map f) .live]:=v8 s .live cq l
theorem cT (s:Nat){bT:Type}{raw:List (List aF)}{f:bT->List aF}{l:List bT}(e:raw=l.map f):[aS.mk s raw .live]=[aS.mk s (l.map f) .live]:=anu s .live e
theorem fS (s:Nat){bT:Type}(f:bT->List aF)(P:List (List bT)):P.map (li .live s f)=P.map (li .live s f):=rfl
theorem hN {bT:Type}(f:bT->List aF)(l:List bT)(i:Int)(x:bT):(l.map f).set (0+i.toNat) (f x)=(l.set (0+i.toNat) x).map f:=tx (el f l) (0+i.toNat) x
theorem ho {bT:Type}(l:List bT)(i:Int)(x:bT):l.length=(l.set (0+i.toNat) x).length:=xT (eV l) (0+i.toNat) x
def ik (n:Nat)(l:ar):fY:=hs n (.isl 1 (l.map eI)) false
def hY (n:Nat)(x:Int):fY:=hs n (.n .i64 x) true
def eh (n:Nat)(x:Bool):fY:=hs n (.b x) true
theorem lE {bT:Type}(l:List bT):bx (.br 0 0 0 l.length):=bx.br 0 0 0 l.length
theorem LO (T:Nat->Option Nat)(a b:ar):[aS.mk 1 (a.map eI) .live,aS.mk 1 (b.map eI) .live]=[aS.mk 1 (a.map eI) .live,aS.mk 1 (b.map eI) .live].map (k6 T):=fQ (ld T 1 kC a) (fQ (ld T 1 kC b) (oo (b1:=T)))
def eB (n:Nat)(l:ar):Nat×aF:=(n,.isl 1 (l.map eI))
def fM {bT:Type}(n:Nat)(l:List bT):Nat×aF:=(n,.br 0 0 0 l.length)
def aZ (n:Nat)(x:Int):Nat×aF:=(n,.n .i64 x)
def mo (a b:ar):List aF:=[.isl 1 (a.map eI),.isl 1 (b.map eI)]
def rC (l:ar):A7:={a4:=[],c9:=[],ac:=[ii],r:= .br 0 0 0 l.length,eP:=[au 1 eI l],f9:=ii,gT:=[.pure],ex:=[],ef:=true}
def kl (n m:Nat):List (fY×Bool):=ag n (dU m (af (.ab true) []))
def kf (n:Nat):List (fY×Bool):=ag n (af (.ab false) [])
def mJ (n:Nat):List (fY×Bool):=af (.ab false) (ag n [])
def lm (n m:Nat):List bE:=[.ab true,I n,.aT [] [] (bj [m])]
def mq (n r m:Nat):List bE:=[I n,.ab false,.aT [r] [.pure] (bj [m])]
def pK (n:Nat):List bE:=[I n,.ab false,.aT [] [] []]
def qh (n m:Nat):List bE:=[I n,.ab false,.aT [] [] (bj [m])]
def hk {bT:Type}(a:Nat)(l:List bT)(b:Nat):List (fY×Bool):=bH a (.aB l.length) b
def gY (a:Nat)(x:Int)(b:Nat):List (fY×Bool):=bH a (.cf (eI x)) b
theorem oP (l:ar):oO [au 1 eI l]:=rb (nn (m7 vC) uv) re
def fr {bT:Type}(n:Nat)(g:List bT):Nat×ni:=(n,amd g.length)
theorem EN (n:Int):([n]:ar).map eI=(([[.n .i64 n]]:List (List aF)).drop 0).take 1:=nJ (show [[.n .i64 n]]=([n]:ar).map eI from rfl) (show 1=([n]:ar).length from rfl)
theorem cG {x:Int}(h1:-9223372036854775808<=x)(h2:x<9223372036854775808):R x=x:=by
 simp only[R,IntKind.wrap,IntKind.signed,IntKind.bits];have:((2:Int) ^ 64)=18446744073709551616:=by decide
 have AD:((2:Int) ^ 63)=9223372036854775808:=by decide
 simp;omega
theorem lJ {x:Int}:nR x↔ -9223372036854775808<=x/\x<9223372036854775808:=by
 have h1:IntKind.min .i64 = -9223372036854775808:=by decide
 have h2:IntKind.max .i64=9223372036854775807:=by decide
 simp only[nR,Lit.wf,h1,h2,dN,decide_eq_true_eq];omega
theorem Kl {α β:Type}{f:α->Option (α⊕β)}{s:Nat->α}{r:β}(n:Nat): ∀(k:Nat),(∀i,k<=i->i<k+n->f (s i)=some (.inl (s (i+1))))->f (s (k+n))=some (.inr r)->iter f (s k)=some r:=by
 induction n with
 | zero =>
  intro k _ h;rw[iter];simp at h;simp[h]
 | succ n ih =>
  intro k h1 h2;rw[iter,h1 k (dD _) (by omega)];simp;exact ih (k+1) (fun i J ak=>h1 i (by omega) (by omega)) (by rw[show k+1+n=k+(n+1) by omega];exact h2)
def scan {α β:Type}(t:Nat->α->Option β):Nat->List α->Option β
 | _,[]=>none
 | n,x::xs=>match t n x with
  | some b=>some b
  | none=>scan t (n+1) xs
theorem J7 {α β:Type}{f:Int->Option (Int⊕β)}{t:Nat->α->Option β}{e:β}: ∀(xs:List α) (k:Nat),
 (∀n x,xs[n]? = some x->f ((k+n:Nat):Int)=some (match t (k+n) x with|some b=> .inr b|none=> .inl ((k+n+1:Nat):Int)))->f ((k+xs.length:Nat):Int)=some (.inr e)->iter f (k:Int)=some ((scan t k xs).getD e)
 | [],k,_,h=>by rw[iter];simp at h;simp[h,scan]
 | x::xs,k,h1,h2=>by
  have J:=h1 0 x rfl;simp only[Nat.add_zero] at J;rw[iter,J];simp only[scan]
  cases cl:t k x with
  | some b=>simp
  | none =>
   simp only[dC,dx];refine J7 xs (k+1) (fun n y aV=> ?_) ?_
   ·have:=h1 (n+1) y (by simpa using aV);rw[show k+(n+1)=k+1+n by omega] at this;exact this
   rw[show k+1+xs.length=k+(x::xs).length by simp;omega];exact h2
theorem j5 {α β:Type}{f:α->Option (α⊕β)}(fp:α->Prop)(m:α->Nat)(Q:β->Prop)
 (h : ∀a,fp a->(∃eF,f a=some (.inl eF)/\fp eF/\m eF<m a)\/ ∃r,f a=some (.inr r)/\Q r) : ∀a,fp a-> ∃r,iter f a=some r/\Q r:=by
 have key : ∀n a,m a<=n->fp a-> ∃r,iter f a=some r/\Q r:=by
  intro n
  induction n with
  | zero =>
   intro a hm c4;rcases h a c4 with ⟨eF,-,-,J⟩|⟨r,h1,h2⟩
   ·omega
   exact⟨r,by rw[iter,h1];rfl,h2⟩
  | succ n ih =>
   intro a hm c4;rcases h a c4 with ⟨eF,h1,h2,J⟩|⟨r,h1,h2⟩
   ·obtain⟨r,r1,r2⟩:=ih eF (by omega) h2;exact⟨r,by rw[iter,h1];exact r1,r2⟩
   exact⟨r,by rw[iter,h1];rfl,h2⟩
 exact fun a c4=>key (m a) a (dD _) c4
theorem N7 {α:Type}{f:Int×List α->Option ((Int×List α)⊕List α)}(xs ad:List α)(h0:ad.length=xs.length)
 (Pe : ∀(n:Nat) x row,xs[n]? = some x->row.length=xs.length->f ((n:Int),row)=some (.inl (((n+1:Nat):Int),row.set n x)))
 (Eo : ∀row,f ((xs.length:Int),row)=some (.inr row)):iter f (0,ad)=some xs:=by
 have h:=Kl (f:=f) (s:=fun n=>((n:Int),xs.take n++ad.drop n)) (r:=xs) xs.length 0 (fun i _ aa=> ?_) ?_
 ·simpa using h
 ·have kH:i<xs.length:=by omega
  rw[Pe i xs[i] _ (dz kH) (by simp;omega)];congr 3;apply ap1;intro j;rw[apT];simp only[dE,List.length_take,List.length_drop,List.getElem?_append,dT,ap5];by_cases ay:i=j
  ·subst ay;have e1:min (i+1) xs.length=i+1:=(by omega);simp[e1,kH];omega
  rw[dA ay];by_cases eN:j<i
  ·have e1:j<min i xs.length:=(by omega);have e2:j<min (i+1) xs.length:=(by omega);rw[dw e1,dw e2,dw eN,dw (by omega)]
  have e1 : ¬j<min i xs.length:=(by omega);have e2 : ¬j<min (i+1) xs.length:=(by omega);rw[dA e1,dA e2];congr 1;omega
 simp only[dG];rw[Eo];simp[h0]
theorem Xb {α β bT:Type}{f:α->Option (α⊕β)}{g:α->Option (α⊕bT)}(h:β->bT)(fp:α->Prop)(c4:∀a eF,fp a->f a=some (.inl eF)->fp eF)(amg:∀a,fp a->g a=(f a).map (Sum.map id h)):
 ∀a r,iter f a=some r->fp a->iter g a=some (h r):=by
 apply iter.partial_correctness f (fun a r=>fp a->iter g a=some (h r));intro it ih a r aj bF;have du:=amg a bF
 cases cq:f a with
 | none=>rw[cq] at aj;simp at aj
 | some x =>
  rw[cq] at aj du
  cases x with
  | inl eF =>
   rw[iter,du];exact ih eF r aj (c4 a eF bF cq)
  | inr fH =>
   have jo:some fH=some r:=aj;obtain rfl:=dJ jo;rw[iter,du];rfl
def w4 {α jG β:Type}(g:Nat->jG->α->jG⊕β)(e:jG->β):List α->Nat->jG->β
 | [],_,s=>e s
 | x::xs,n,s=>match g n s x with
  | .inl b8=>w4 g e xs (n+1) b8
  | .inr b=>b
theorem WA {α jG pr β:Type}{f:pr->Option (pr⊕β)}(da:Nat->jG->pr)(g:Nat->jG->α->jG⊕β)(e:jG->β)(fp:Nat->jG->Prop)(bw:List α)
 (h : ∀n s x,fp n s->bw[n]? = some x->f (da n s)=some (match g n s x with | .inl b8=> .inl (da (n+1) b8) | .inr b=> .inr b)/\ ∀b8,g n s x = .inl b8->fp (n+1) b8)
 (he : ∀s,fp bw.length s->f (da bw.length s)=some (.inr (e s))) : ∀(xs:List α) (n:Nat) (s:jG),bw.drop n=xs->n<=bw.length->fp n s->iter f (da n s)=some (w4 g e xs n s)
 | [],n,s,bD,aU,c4=>by have:n=bw.length:=(by have:=congrArg List.length bD;simp at this;omega);subst this;rw[iter,he s c4];rfl
 | x::xs,n,s,bD,aU,c4=>by
  have U:bw[n]? = some x:=(by have:=congrArg (·[0]?) bD;simpa using this);have eN:=f6 U;obtain⟨h1,h2⟩:=h n s x c4 U;rw[iter,h1];simp only[w4]
  cases du:g n s x with
  | inr b=>rfl
  | inl b8 =>
   simp only[dC,dx];refine WA da g e fp bw h he xs (n+1) b8 ?_ (by omega) (h2 b8 du);rw[<- List.drop_drop,bD];rfl
theorem V2 {α jG pr β:Type}{f:pr->Option (pr⊕β)}(da:Nat->jG->pr)(g:Nat->jG->α->jG⊕β)(e:jG->β)(bw:List α)
 (h : ∀n s x,bw[n]? = some x->f (da n s)=some (match g n s x with | .inl b8=> .inl (da (n+1) b8) | .inr b=> .inr b))
 (he : ∀s,f (da bw.length s)=some (.inr (e s))) (s:jG):iter f (da 0 s)=some (w4 g e bw 0 s) :=
 WA da g e (fun _ _=>True) bw (fun n s x _ U=>⟨h n s x U,fun _ _=>trivial⟩) (fun s _=>he s) bw 0 s rfl (Nat.zero_le _) trivial
theorem Km {α:Type}{f:Int->Option (Int⊕(Unit⊕Unit))}(xs:List α)(p:α->Bool)
 (h : ∀(n:Nat) x,xs[n]? = some x->f n=some (if p x then .inl ((n+1:Nat):Int) else .inr (.inr ()))) (he:f xs.length=some (.inr (.inl ()))) :
 iter f 0=some (if xs.all p then .inl () else .inr ()):=by
 have:=V2 (f:=f) (jG:=Unit) (fun n _=>(n:Int)) (fun _ _ x=>if p x then .inl () else .inr (.inr ())) (fun _=> .inl ()) xs (fun n _ x U=>by rw[h n x U];cases p x<;>rfl) (fun _=>he) ();rw[show ((0:Nat):Int)=0 from rfl] at this;rw[this];congr 1
 have key : ∀(bw:List α) (n:Nat),w4 (fun (_:Nat) (_:Unit) x=>if p x then Sum.inl () else Sum.inr (Sum.inr ())) (fun _=>(Sum.inl ():Unit⊕Unit)) bw n ()=if bw.all p then .inl () else .inr ():=by
  intro bw
  induction bw with
  | nil=>intro n;rfl
  | cons y bw ih =>
   intro n;simp only[w4,List.all_cons];by_cases ah:p y=true
   ·simpa [ah] using ih (n+1)
   simp[ah]
 exact key xs 0
theorem WB {α:Type}{f:Int->Option (Int⊕(Unit⊕Int))}(xs:List α)(p:α->Bool)
 (h : ∀(n:Nat) x,xs[n]? = some x->f n=some (if p x then .inr (.inr (n:Int)) else .inl ((n+1:Nat):Int))) (he:f xs.length=some (.inr (.inl ()))) :
 ∃r,iter f 0=some r/\((∃k:Int,r = .inr k/\0<=k/\xs.any p=true)\/(r = .inl ()/\xs.any p=false)):=by
 have:=V2 (f:=f) (jG:=Unit) (fun n _=>(n:Int)) (fun n _ x=>if p x then .inr (.inr (n:Int)) else .inl ()) (fun _=> .inl ()) xs (fun n _ x U=>by rw[h n x U];cases p x<;>rfl) (fun _=>he) ();rw[show ((0:Nat):Int)=0 from rfl] at this;refine⟨_,this,?_⟩
 have key : ∀(bw:List α) (n:Nat),(∃k:Int,w4 (fun (n:Nat) (_:Unit) x=>if p x then Sum.inr (Sum.inr (n:Int)) else Sum.inl ()) (fun _=>(Sum.inl ():Unit⊕Int)) bw n () = .inr k/\0<=k/\bw.any p=true) \/
  (w4 (fun (n:Nat) (_:Unit) x=>if p x then Sum.inr (Sum.inr (n:Int)) else Sum.inl ()) (fun _=>(Sum.inl ():Unit⊕Int)) bw n () = .inl ()/\bw.any p=false):=by
  intro bw
  induction bw with
  | nil=>intro n;exact .inr ⟨rfl,rfl⟩
  | cons y bw ih =>
   intro n;simp only[w4,List.any_cons];by_cases ah:p y=true
   ·exact .inl ⟨n,by simp[ah],by omega,by simp[ah]⟩
   simpa [ah] using ih (n+1)
 exact key xs 0
theorem i1 {n:Nat}(h:(n:Int)<9223372036854775807):R ((n:Int)+1)=((n+1:Nat):Int):=by rw[cG (by omega) (by omega)];rfl
def V:ar->Int
 | []=>0
 | x::xs=>x+1000000000*V xs
def c2 (l:ar):Prop:= ∀x∈l,0<=x/\x<1000000000
abbrev B (n:Nat):Int:=(1000000000:Int) ^ n
theorem oq (n:Nat):B (n+1)=1000000000*B n:=by rw[B,B,Int.pow_succ];exact Int.mul_comm _ _
theorem pY (n:Nat):1<=B n:=by
 induction n with
 | zero=>simp[B]
 | succ n ih=>rw[oq];omega
theorem Hp (m n:Nat):B (m+n)=B m*B n:=by rw[B,B,B,Int.pow_add]
theorem tF {m n:Nat}(h:m<=n):B m<=B n:=by
 induction n with
 | zero =>
  have:m=0:=(by omega);subst this;exact Int.le_refl _
 | succ n ih =>
  by_cases hm:m=n+1
  ·subst hm;exact Int.le_refl _
  have h1:=ih (by omega);have h2:=pY n;rw[oq];omega
theorem c2.tail {x:Int}{l:ar}(h:c2 (x::l)):c2 l:=fun y aV=>h y (by simp[aV])
theorem c2.head {x:Int}{l:ar}(h:c2 (x::l)):0<=x/\x<1000000000:=h x (by simp)
theorem c2.nil:c2 []:=fun _ h=>by simp at h
theorem c2.cons {x:Int}{l:ar}(h:0<=x/\x<1000000000)(aR:c2 l):c2 (x::l):=fun y aV=>by
 rcases dS.mp aV with rfl|h1
 ·exact h
 exact aR y h1
theorem c2.get {l:ar}(h:c2 l){n:Nat}{x:Int}(U:l[n]? = some x):0<=x/\x<1000000000:=h x (dH U)
theorem c2.take {l:ar}(h:c2 l)(n:Nat):c2 (l.take n):=fun x U=>h x (List.mem_of_mem_take U)
theorem c2.drop {l:ar}(h:c2 l)(n:Nat):c2 (l.drop n):=fun x U=>h x (List.mem_of_mem_drop U)
theorem c2.append {l m:ar}(h:c2 l)(c1:c2 m):c2 (l++m):=fun x U=>by
 rcases List.mem_append.mp U with h1|h1
 ·exact h x h1
 exact c1 x h1
theorem c2.set {l:ar}(h:c2 l){n:Nat}{x:Int}(U:0<=x/\x<1000000000):c2 (l.set n x):=fun y aV=>by
 rcases List.mem_or_eq_of_mem_set aV with h1|rfl
 ·exact h y h1
 exact U
theorem c2.Qd (n:Nat):c2 (List.replicate n 0):=fun x U=>by have:=(List.mem_replicate.mp U).2;omega
theorem Eh:V []=0:=rfl
theorem nq (x:Int)(l:ar):V (x::l)=x+1000000000*V l:=rfl
theorem m4 {l:ar}(h:c2 l):0<=V l:=by
 induction l with
 | nil=>simp[V]
 | cons x l ih =>
  have h1:=ih h.tail;have h2:=h.head;rw[nq];omega
theorem o2 {l:ar}(h:c2 l):V l<B l.length:=by
 induction l with
 | nil=>simp[V,B]
 | cons x l ih =>
  have h1:=ih h.tail;have h2:=h.head;rw[nq,dI,oq];omega
theorem zM (a b:ar):V (a++b)=V a+B a.length*V b:=by
 induction a with
 | nil=>simp[V,B]
 | cons x a ih =>
  rw[List.cons_append,nq,nq,dI,oq,ih];grind
theorem Ph (n:Nat):V (List.replicate n 0)=0:=by
 induction n with
 | zero=>rfl
 | succ n ih=>rw[List.replicate_succ,nq,ih];rfl
theorem vE {l:ar}{n:Nat}{x y:Int}(h:l[n]? = some y):V (l.set n x)=V l+(x-y)*B n:=by
 induction l generalizing n with
 | nil=>simp at h
 | cons z l ih =>
  cases n with
  | zero =>
   simp at h;subst h;rw[List.set_cons_zero,nq,nq];simp[B];omega
  | succ n =>
   rw[List.set_cons_succ,nq,nq,ih (by simpa using h),oq];grind
theorem zT {l:ar}{n:Nat}(h:n<=l.length):V l=V (l.take n)+B n*V (l.drop n):=by have:=zM (l.take n) (l.drop n);rw[List.take_append_drop] at this;rw[this,List.length_take,Nat.min_eq_left h]
theorem wI {l:ar}{n:Nat}{x:Int}(h:l[n]? = some x):V (l.take (n+1))=V (l.take n)+B n*x:=by
 have aU:=f6 h;have:l.take (n+1)=l.take n++[x]:=by rw[List.take_add_one,h];rfl
 rw[this,zM,List.length_take,Nat.min_eq_left (by omega)];simp[V]
theorem Xc {α:Type}{l:List α}{n:Nat}{x:α}(h:l[n]? = some x):l.drop n=x::l.drop (n+1):=by have aU:=f6 h;rw[dz aU] at h;rw[List.drop_eq_getElem_cons aU];simp at h;rw[h]
theorem rf {l:ar}{n:Nat}{x:Int}(h:l[n]? = some x):V (l.drop n)=x+1000000000*V (l.drop (n+1)):=by rw[Xc h,nq]
def gm (l:ar):Prop:=c2 l/\ ∀x,l.getLast? = some x->x≠0
theorem gm.nil:gm []:=⟨c2.nil,fun _ h=>by simp at h⟩
theorem gm.tail {x:Int}{l:ar}(h:gm (x::l)):gm l:=⟨h.1.tail,fun y aV=>h.2 y (by
 cases l with
 | nil=>simp at aV
 | cons z l=>simpa using aV)⟩
theorem uI {l:ar}(h:gm l)(aR:l≠[]):0<V l:=by
 induction l with
 | nil=>exact absurd rfl aR
 | cons x l ih =>
  have h1:=h.1.head;by_cases h2:l=[]
  ·subst h2;have:=h.2 x (by simp);simp[V];omega
  have:=ih h.tail h2;rw[nq];omega
theorem Lm {l:ar}(h:gm l)(aR:l≠[]):B (l.length-1)<=V l:=by
 induction l with
 | nil=>exact absurd rfl aR
 | cons x l ih =>
  have h1:=h.1.head;by_cases h2:l=[]
  ·subst h2;have:=h.2 x (by simp);simp[V,B];omega
  have J:=ih h.tail h2;have ak:(x::l).length-1=(l.length-1)+1:=(by have:=ap9.mpr h2;simp;omega);rw[nq,ak,oq];omega
def yI (n:Nat):ar:=if h:n=0 then [] else ((n % 1000000000:Nat):Int)::yI (n / 1000000000)
decreasing_by exact Nat.div_lt_self (Nat.pos_of_ne_zero h) (by decide)
def L (n:Int):ar:=yI n.toNat
theorem Yt (n:Nat):gm (yI n)/\V (yI n)=n:=by
 induction n using Nat.strongRecOn with
 | ind n ih =>
  rw[yI];by_cases h:n=0
  ·subst h;simp[V,gm.nil]
  rw[dif_neg h];obtain⟨h1,h2⟩:=ih (n / 1000000000) (Nat.div_lt_self (Nat.pos_of_ne_zero h) (by decide));refine⟨⟨c2.cons (by omega) h1.1,fun x U=> ?_⟩,?_⟩
  ·by_cases J:yI (n / 1000000000)=[]
   ·rw[J] at U h2;simp[V] at U h2;omega
   refine h1.2 x ?_
   cases ak:yI (n / 1000000000) with
   | nil=>exact absurd ak J
   | cons z l=>rw[ak] at U;simpa using U
  rw[nq,h2];omega
theorem i6 (n:Int):gm (L n):=(Yt _).1
theorem h9 (n:Int):c2 (L n):=(i6 n).1
theorem eA {n:Int}(h:0<=n):V (L n)=n:=by rw[L,(Yt _).2];omega
theorem akW {a b:ar}(bF:gm a)(a3:gm b)(h:V a=V b):a=b:=by
 induction a generalizing b with
 | nil =>
  by_cases h1:b=[]
  ·exact h1.symm
  have:=uI a3 h1;simp[V] at h;omega
 | cons x a ih =>
  cases b with
  | nil =>
   have:=uI bF (by simp);rw[h] at this;simp[V] at this
  | cons y b =>
   have h1:=bF.1.head;have h2:=a3.1.head;rw[nq,nq] at h;have J:x=y:=(by omega);have ak:=ih bF.tail a3.tail (by omega);rw[J,ak]
theorem xd {l:ar}(h:gm l):L (V l)=l:=akW (i6 _) h (eA (m4 h.1))
theorem yg {l:ar}{n:Int}(h:gm l)(bh:V l=n):l=L n:=by rw[<- bh,xd h]
theorem sE:L 0=[]:=by rw[L,yI];rfl
theorem YY {n:Int}(h:n<=0):L n=[]:=by rw[L,Int.toNat_eq_zero.mpr h];exact sE
theorem ij {n:Int}{k:Nat}(h:0<=n):(L n).length<=k↔n<B k:=by
 constructor
 ·intro h1;have h2:=o2 (h9 n);rw[eA h] at h2;have:=tF h1;omega
 intro h1;by_cases h2:L n=[]
 ·rw[h2];simp
 have J:=Lm (i6 n) h2;rw[eA h] at J;have ak:=ap9.mpr h2;apply Nat.le_of_not_lt;intro ax;have:=tF (m:=k) (n:=(L n).length-1) (by omega);omega
theorem gm.len {l:ar}(h:gm l){k:Nat}:l.length<=k↔V l<B k:=by
 have:=ij (n:=V l) (k:=k) (m4 h.1)
 rwa [xd h] at this
theorem sI {n:Int}:L n=[]↔n<=0:=by
 constructor
 ·intro h;apply Int.not_lt.mp;intro h1;have:=eA (n:=n) (by omega);rw[h] at this;simp[V] at this;omega
 exact YY
theorem gm.pos {l:ar}(h:gm l):0<V l↔l≠[]:=by
 constructor
 ·intro h1 h2;subst h2;simp[V] at h1
 exact uI h
theorem gm.OK {l:ar}(aR:c2 l)(n:Nat)(h:∀x,l[n]? = some x->x≠0):gm (l.take (n+1))\/l.length<=n:=by
 by_cases aU:n<l.length
 ·refine .inl ⟨aR.take _,fun x U=>h x ?_⟩;rw[List.take_add_one,dz aU,show (some l[n]).toList=[l[n]] from rfl,List.getLast?_append] at U;rw[dz aU];exact U
 exact .inr (by omega)
theorem gm.one {x:Int}(h:0<x/\x<1000000000):gm [x]:=⟨c2.cons (by omega) c2.nil,fun y aV=>by simp at aV;omega⟩
theorem KA {x:Int}(h:0<x/\x<1000000000):L x=[x]:=(yg (gm.one h) (by simp[V])).symm
def lP (a b:Int):Int:=if a<b then -1 else if b<a then 1 else 0
theorem KB {a b:ar}(bF:gm a)(a3:gm b)(h:a.length<b.length):V a<V b:=by
 have h1:=o2 bF.1;have ny:b≠[]:=by intro h2;rw[h2] at h;simp at h
 have h2:=Lm a3 ny;have:=tF (m:=a.length) (n:=b.length-1) (by omega);omega
theorem XM {a b:ar}(bF:c2 a)(a3:c2 b){n:Nat}{x y:Int}(U:a[n]? = some x)(aV:b[n]? = some y)(h:V (a.drop (n+1))=V (b.drop (n+1)))(Qe:x<y):V a<V b:=by
 have h1:=zT (Nat.le_of_lt (f6 U));have h2:=zT (Nat.le_of_lt (f6 aV));rw[rf U] at h1;rw[rf aV,<- h] at h2;have J:=o2 (bF.take n);have ak:=m4 (a3.take n);rw[List.length_take,Nat.min_eq_left (Nat.le_of_lt (f6 U))] at J;have ax:=pY n;rw[h1,h2];generalize V (a.drop (n+1))=t at *;generalize V (a.take n)=p at *;generalize V (b.take n)=q at *;generalize B n=w at *;have:w*(x+1000000000*t)+w<=w*(y+1000000000*t):=by have aN:w*(x+1000000000*t+1)<=w*(y+1000000000*t):=dL (by omega) (by omega);rw[Int.mul_add,Int.mul_one] at aN;exact aN
 omega
theorem Xd {α:Type}{bw:List α}{p:α->Bool}{n:Nat}{y:α}(aV:bw[n]? = some y)(h:(bw.take n).all p=true)(ah:p y=true):(bw.take (n+1)).all p=true:=by rw[List.take_add_one,aV,List.all_append,h];simp[ah]
theorem Yu {α:Type}{bw:List α}{p:α->Bool}{n:Nat}{y:α}(aV:bw[n]? = some y)(ah:p y=false):bw.all p=false:=by rw[List.all_eq_false];exact⟨y,dH aV,by simp[ah]⟩
theorem aiw {α β:Type}{f:Int×List β->Option ((Int×List β)⊕(List β⊕Unit))}(bw:List α)(ok:α->Bool)(h:α->β)
 (bM : ∀(n:Nat) y row,bw[n]? = some y->row.length=n->f ((n:Int),row)=some (if ok y then .inl (((n+1:Nat):Int),row++[h y]) else .inr (.inr ())))
 (he : ∀row,f ((bw.length:Int),row)=some (.inr (.inl row))):iter f (0,[])=some (if bw.all ok then .inl (bw.map h) else .inr ()):=by
 obtain⟨r,aj,rfl⟩:=j5 (f:=f) (fp:=fun w=> ∃n:Nat,w.1=n/\n<=bw.length/\w.2=(bw.take n).map h/\(bw.take n).all ok=true) (m:=fun w=>bw.length-w.1.toNat) (fun r=>r=if bw.all ok then .inl (bw.map h) else .inr ()) (by
  rintro⟨i,row⟩ ⟨n,h1,aU,h2,J⟩;simp only at h1 h2;subst h1 h2;by_cases aR:n=bw.length
  ·subst aR;refine .inr ⟨_,he _,?_⟩;rw[List.take_length] at J ⊢;rw[J];rfl
  have aV:=dz (show n<bw.length by omega);have ev:((bw.take n).map h).length=n:=(by simp;omega);rw[bM n _ _ aV ev];by_cases ap:ok bw[n]=true
  ·refine .inl ⟨_,by rw[dw ap],⟨n+1,rfl,by omega,?_,Xd aV J ap⟩,by simp;omega⟩;simp only;rw[List.take_add_one,aV,show (some bw[n]).toList=[bw[n]] from rfl,List.map_append];rfl
  refine .inr ⟨_,by rw[dA ap],?_⟩;rw[Yu aV (by simpa using ap)];rfl) (0,[]) ⟨0,rfl,by omega,by simp,by simp⟩
 exact aj
theorem WC {α β:Type}{f:Int×List β->Option ((Int×List β)⊕(List β⊕Unit))}(bw:List α)(ok:α->Bool)(h:α->β)(ad:List β)(h0:ad.length=bw.length)
 (bM : ∀(n:Nat) y row,bw[n]? = some y->row.length=bw.length->f ((n:Int),row)=some (if ok y then .inl (((n+1:Nat):Int),row.set n (h y)) else .inr (.inr ())))
 (he : ∀row,f ((bw.length:Int),row)=some (.inr (.inl row))):iter f (0,ad)=some (if bw.all ok then .inl (bw.map h) else .inr ()):=by
 obtain⟨r,aj,rfl⟩:=j5 (f:=f) (fp:=fun w=> ∃n:Nat,w.1=n/\n<=bw.length/\w.2.length=bw.length/\w.2.take n=(bw.take n).map h/\(bw.take n).all ok=true) (m:=fun w=>bw.length-w.1.toNat) (fun r=>r=if bw.all ok then .inl (bw.map h) else .inr ()) (by
  rintro⟨i,row⟩ ⟨n,h1,aU,hlen,h2,J⟩;simp only at h1 hlen h2;subst h1;by_cases aR:n=bw.length
  ·subst aR;refine .inr ⟨_,he _,?_⟩;rw[List.take_length] at J h2;rw[apW (by omega)] at h2;rw[J,h2];rfl
  have aV:=dz (show n<bw.length by omega);rw[bM n _ _ aV hlen];by_cases ap:ok bw[n]=true
  ·refine .inl ⟨_,by rw[dw ap],⟨n+1,rfl,by omega,by simpa using hlen,?_,Xd aV J ap⟩,by simp;omega⟩;simp only;rw[List.take_add_one,List.take_add_one,aV,apT,dw rfl,dw (by omega),List.take_set_of_le (by omega),h2,show (some bw[n]).toList=[bw[n]] from rfl,List.map_append];rfl
  refine .inr ⟨_,by rw[dA ap],?_⟩;rw[Yu aV (by simpa using ap)];rfl) (0,ad) ⟨0,rfl,by omega,h0,by simp,by simp⟩
 exact aj
theorem WD {α:Type}{P:Nat->α->Prop}: ∀(n:Nat),(∀k,k<n-> ∃y,P k y)-> ∃bw:List α,bw.length=n/\ ∀k y,bw[k]? = some y->P k y
 | 0,_=>⟨[],rfl,fun k y h=>by simp at h⟩
 | n+1,h=>by
  obtain⟨bw,h1,h2⟩:=WD n (fun k a2=>h k (by omega));obtain⟨y,aV⟩:=h n (by omega);refine⟨bw++[y],by simp[h1],fun k z cB=> ?_⟩;by_cases a2:k<bw.length
  ·rw[apY a2] at cB;exact h2 k z cB
  rw[ap0 (by omega)] at cB;have:k-bw.length=0:=(by have:=f6 cB;simp at this;omega);rw[this] at cB;simp at cB;have:k=n:=(by omega);subst this;rw[<- cB];exact aV
section
variable {α β bT:Type}
theorem aI {o:Option β}{f:β->Option α}{x:β}{r:Option α}(h:o=some x)(k:f x=r):(o >>= f)=r:=by rw[h];exact k
theorem cz {p:Prop}[Decidable p] {x r:Option α} (h:p) (k:x=r):(if p then x else none)=r:=by rw[dw h];exact k
theorem gH {b:Bool}{x y r:α}(h:b=true)(k:x=r):(if b=true then x else y)=r:=by rw[dw h];exact k
theorem jF {b:Bool}{x y r:α}(h:b=false)(k:y=r):(if b=true then x else y)=r:=by rw[dA (by rw[h];exact Bool.false_ne_true)];exact k
theorem mh {p:Prop}[Decidable p] {x y r:α} (h:p) (k:x=r):(if decide p=true then x else y)=r:=by rw[dw (decide_eq_true h)];exact k
theorem l4 {p:Prop}[Decidable p] {x y r:α} (h : ¬p) (k:y=r):(if decide p=true then x else y)=r:=by rw[dA (by simpa using h)];exact k
theorem q4 {b:Bool}{x y r:α}(h1:b=true->x=r)(h2:b=false->y=r):(if b=true then x else y)=r:=by
 cases b
 ·exact h2 rfl
 exact h1 rfl
theorem QV {o:Option bT}{x r:α}{f:bT->α}(h:o=none)(k:x=r):o.elim x f=r:=by rw[h];exact k
theorem QW {o:Option bT}{y:bT}{x r:α}{f:bT->α}(h:o=some y)(k:f y=r):o.elim x f=r:=by rw[h];exact k
theorem gt {l:List α}{i:Int}{n:Nat}{x:α}(e:i=n)(h:l[n]? = some x):l[i.toNat]? = some x:=by rw[e,dy];exact h
theorem EO {a b:Int}(h:a=b):(a == b)=true:=by simp[h]
theorem yt {a b:Int}(h:a≠b):(a == b)=false:=by simp[h]
theorem xe {a b:Int}(h:a≠b):(a != b)=true:=by simp[h]
theorem EP {a b:Int}(h:a=b):(a != b)=false:=by simp[h]
theorem tv {jG pr:Type}{f:pr->Option (pr⊕β)}(da:Nat->jG->pr)(N:Nat)(fp:Nat->jG->Prop)(Q:β->Prop)
 (h : ∀n,n<N-> ∀s,fp n s->(∃b8,f (da n s)=some (.inl (da (n+1) b8))/\fp (n+1) b8)\/(∃r,f (da n s)=some (.inr r)/\Q r))
 (he : ∀s,fp N s-> ∃r,f (da N s)=some (.inr r)/\Q r) (lb:jG) (h0:fp 0 lb) : ∃r,iter f (da 0 lb)=some r/\Q r:=by
 have key : ∀(d n:Nat) (s:jG),n+d=N->fp n s-> ∃r,iter f (da n s)=some r/\Q r:=by
  intro d
  induction d with
  | zero =>
   intro n s aU c4;obtain rfl:n=N:=(by omega);obtain⟨r,h1,h2⟩:=he s c4;exact⟨r,by rw[iter,h1];rfl,h2⟩
  | succ d ih =>
   intro n s aU c4;rcases h n (by omega) s c4 with ⟨b8,h1,h2⟩|⟨r,h1,h2⟩
   ·obtain⟨r,J,ak⟩:=ih (n+1) b8 (by omega) h2;exact⟨r,by rw[iter,h1];exact J,ak⟩
   exact⟨r,by rw[iter,h1];rfl,h2⟩
 exact key N 0 lb (by omega) h0
theorem ix {jG pr:Type}{f:pr->Option (pr⊕β)}(da:Nat->jG->pr)(N:Nat)(fp:Nat->jG->Prop)(e:jG->β)
 (h : ∀n,n<N-> ∀s,fp n s-> ∃b8,f (da n s)=some (.inl (da (n+1) b8))/\fp (n+1) b8)
 (he : ∀s,fp N s->f (da N s)=some (.inr (e s))) (lb:jG) (h0:fp 0 lb) : ∃s,iter f (da 0 lb)=some (e s)/\fp N s:=by
 obtain⟨r,h1,s,rfl,h2⟩:=tv da N fp (fun r=> ∃s,r=e s/\fp N s) (fun n aU s c4=> .inl (h n aU s c4)) (fun s c4=>⟨_,he s c4,s,rfl,c4⟩) lb h0;exact⟨s,h1,h2⟩
end
def cy:Nat->(Nat->Rat)->Rat
 | 0,_=>0
 | n+1,f=>cy n f+f n
theorem gy {f g:Nat->Rat}: ∀ {n:Nat},(∀i,i<n->f i=g i)->cy n f=cy n g
 | 0,_=>rfl
 | n+1,h=>by rw[cy,cy,gy fun i aa=>h i (Nat.lt_succ_of_lt aa),h n (Nat.lt_succ_self n)]
theorem oH : ∀ {n:Nat} {f:Nat->Rat},(∀i,i<n->f i=0)->cy n f=0
 | 0,_,_=>rfl
 | n+1,f,h=>by rw[cy,oH fun i aa=>h i (Nat.lt_succ_of_lt aa),h n (Nat.lt_succ_self n)];grind
theorem zC (f g:Nat->Rat): ∀n,cy n (fun i=>f i+g i)=cy n f+cy n g
 | 0=>by simp only[cy];grind
 | n+1=>by simp only[cy,zC f g n];grind
theorem us (f g:Nat->Rat): ∀n,cy n (fun i=>f i-g i)=cy n f-cy n g
 | 0=>by simp only[cy];grind
 | n+1=>by simp only[cy,us f g n];grind
theorem ki (c:Rat)(f:Nat->Rat): ∀n,cy n (fun i=>c*f i)=c*cy n f
 | 0=>by simp only[cy];grind
 | n+1=>by simp only[cy,ki c f n];grind
theorem wy (c:Rat)(f:Nat->Rat)(n:Nat):cy n (fun i=>f i*c)=cy n f*c:=by rw[gy (g:=fun i=>c*f i) (fun i _=>Rat.mul_comm _ _),ki,Rat.mul_comm]
theorem rU (f:Nat->Nat->Rat)(m:Nat): ∀n,cy n (fun i=>cy m (f i))=cy m (fun j=>cy n (fun i=>f i j))
 | 0=>by simp only[cy];exact(oH fun _ _=>rfl).symm
 | n+1=>by simp only[cy,rU f m n];rw[<- zC]
theorem lT {n k:Nat}(a2:k<n){f:Nat->Rat}(h:∀i,i<n->i≠k->f i=0):cy n f=f k:=by
 induction n with
 | zero=>omega
 | succ n ih =>
  rw[cy];by_cases e:k=n
  ·subst e;rw[oH fun i aa=>h i (by omega) (by omega)];grind
  rw[ih (by omega) fun i aa di=>h i (by omega) di,h n (by omega) (by omega)];grind
theorem wt {f:Nat->Rat}: ∀ {n:Nat},(∀i,i<n->0<=f i)->0<=cy n f
 | 0,_=>by simp only[cy];grind
 | n+1,h=>by have h1:=wt (n:=n) fun i aa=>h i (Nat.lt_succ_of_lt aa);have h2:=h n (Nat.lt_succ_self n);simp only[cy];grind
theorem aix {f g:Nat->Rat}{n:Nat}(h:∀i,i<n->f i<=g i):cy n f<=cy n g:=by
 have:=wt (n:=n) (f:=fun i=>g i-f i) fun i aa=>by have:=h i aa;grind
 rw[us] at this;grind
theorem NC {f:Nat->Rat}: ∀ {n:Nat},(∀i,i<n->0<=f i)->cy n f=0-> ∀i,i<n->f i=0
 | 0,_,_,i,aa=>by omega
 | n+1,h,bM,i,aa=>by
  have h1:=wt (n:=n) fun i aa=>h i (Nat.lt_succ_of_lt aa);have h2:=h n (Nat.lt_succ_self n);simp only[cy] at bM;by_cases e:i=n
  ·subst e;grind
  exact NC (n:=n) (fun i aa=>h i (by omega)) (by grind) i (by omega)
theorem NN (m:Nat)(f:Nat->Rat): ∀n,cy (m+n) f=cy m f+cy n (fun i=>f (m+i))
 | 0=>by simp only[cy,Nat.add_zero];grind
 | n+1=>by rw[<- Nat.add_assoc,cy,cy,NN m f n];grind
def jb (K:Nat)(g:Nat->Rat):Prop:= ∃l,l<K/\0<g l/\ ∀gL,gL<l->g gL=0
def GZ (K:Nat)(g:Nat->Rat):Prop:= ∀l,l<K->g l=0
theorem jb.congr {K:Nat}{g gV:Nat->Rat}(h:jb K g)(e:∀l,l<K->g l=gV l):jb K gV:=by obtain⟨l,h1,h2,J⟩:=h;exact⟨l,h1,by rw[<- e l h1];exact h2,fun gL aR=>by rw[<- e gL (by omega)];exact J gL aR⟩
theorem jb.not_zero {K:Nat}{g:Nat->Rat}(h:jb K g)(z:GZ K g):False:=by obtain⟨l,h1,h2,J⟩:=h;have:=z l h1;grind
theorem J8 (K:Nat)(g:Nat->Rat):jb K g\/GZ K g\/jb K (fun l=> - g l):=by
 induction K with
 | zero=>exact .inr (.inl fun l aR=>by omega)
 | succ K ih =>
  rcases ih with ⟨l,h1,h2,J⟩|h|⟨l,h1,h2,J⟩
  ·exact .inl ⟨l,by omega,h2,J⟩
  ·by_cases c:g K=0
   ·exact .inr (.inl fun l aR=>if e:l=K then e▸c else h l (by omega))
   by_cases p:0<g K
   ·exact .inl ⟨K,by omega,p,h⟩
   exact .inr (.inr ⟨K,by omega,by grind,fun gL aR=>by have:=h gL aR;grind⟩)
  exact .inr (.inr ⟨l,by omega,h2,J⟩)
theorem jb.not_neg {K:Nat}{g:Nat->Rat}(h:jb K g)(c1:jb K (fun l=> - g l)):False:=by
 obtain⟨l,h1,h2,J⟩:=h;obtain⟨k,kN,j3,oU⟩:=c1;rcases Nat.lt_trichotomy l k with c|c|c
 ·have:=oU l c;grind
 ·subst c;grind
 have:=J k c;grind
theorem jb.add {K:Nat}{g gV:Nat->Rat}(h:jb K g)(c1:jb K gV):jb K (fun l=>g l+gV l):=by
 obtain⟨l,h1,h2,J⟩:=h;obtain⟨k,kN,j3,oU⟩:=c1;rcases Nat.lt_trichotomy l k with c|c|c
 ·exact⟨l,h1,by have:=oU l c;grind,fun gL aR=>by have:=J gL aR;have:=oU gL (by omega);grind⟩
 ·subst c;exact⟨l,h1,by grind,fun gL aR=>by have:=J gL aR;have:=oU gL aR;grind⟩
 exact⟨k,kN,by have:=J k c;grind,fun gL aR=>by have:=J gL (by omega);have:=oU gL aR;grind⟩
theorem jb.add_zero {K:Nat}{g gV:Nat->Rat}(h:jb K g)(c1:GZ K gV):jb K (fun l=>g l+gV l) :=
 h.congr fun l aR=>by have:=c1 l aR;grind
theorem jb.mul {K:Nat}{g:Nat->Rat}(h:jb K g){c:Rat}(a0:0<c):jb K (fun l=>c*g l):=by obtain⟨l,h1,h2,J⟩:=h;exact⟨l,h1,Rat.mul_pos a0 h2,fun gL aR=>by have:=J gL aR;grind⟩
theorem jb.Yv {K:Nat}{g:Nat->Rat}{c:Rat}(h:jb K (fun l=>c*g l)):(0<c/\jb K g)\/(c<0/\jb K (fun l=> - g l)):=by
 rcases J8 K g with p|p|p
 ·by_cases a0:0<c
  ·exact .inl ⟨a0,p⟩
  by_cases h0:c=0
  ·exact(h.not_zero fun l _=>by grind).elim
  exact(h.not_neg ((p.mul (c:= -c) (by grind)).congr fun l _=>by grind)).elim
 ·exact(h.not_zero fun l aR=>by have:=p l aR;grind).elim
 by_cases a0:c<0
 ·exact .inr ⟨a0,p⟩
 by_cases h0:c=0
 ·exact(h.not_zero fun l _=>by grind).elim
 exact(h.not_neg ((p.mul (c:=c) (by grind)).congr fun l _=>by grind)).elim
theorem jb.OY {K:Nat}{v:Nat->Nat->Rat}: ∀ {n:Nat},jb K (fun l=>cy n (fun j=>v j l))-> ∃j,j<n/\jb K (v j)
 | 0,h=>(h.not_zero fun l _=>rfl).elim
 | n+1,h=>by
  by_cases c:jb K (v n)
  ·exact⟨n,by omega,c⟩
  have:jb K (fun l=>cy n (fun j=>v j l)):=by
   rcases J8 K (fun l=>cy n (fun j=>v j l)) with p|p|p
   ·exact p
   ·exact(c (h.congr fun l aR=>by have:=p l aR;simp only[cy];grind)).elim
   rcases J8 K (v n) with q|q|q
   ·exact(c q).elim
   ·exact(h.not_neg (p.congr fun l aR=>by have:=q l aR;simp only[cy];grind)).elim
   exact(h.not_neg ((p.add q).congr fun l aR=>by simp only[cy];grind)).elim
  obtain⟨j,h1,h2⟩:=jb.OY this;exact⟨j,by omega,h2⟩
structure b2 where
 T:Nat->Nat->Rat
 B:Nat->Nat
structure hy (fe m N:Nat) (A:Nat->Nat->Rat) (t:b2):Prop where
 tY : ∀c,c<fe-> ∀j,j<=N->A c j=cy m (fun i=>A c (t.B i)*t.T i j)
 row : ∃W:Nat->Nat->Rat,∀i,i<m-> ∀j,j<=N->t.T i j=cy fe (fun c=>W i c*A c j)
 unit : ∀i,i<m-> ∀k,k<m->t.T i (t.B k)=if i=k then 1 else 0
 jZ : ∀i,i<m->t.B i<N
def b2.ct (t:b2)(r k:Nat):b2 where
 T:=fun i j=>if i=r then t.T r j / t.T r k else t.T i j-t.T i k*(t.T r j / t.T r k)
 B:=fun i=>if i=r then k else t.B i
def b2.cw (m:Nat)(obj:Nat->Rat)(t:b2)(j:Nat):Rat:=obj j-cy m (fun i=>obj (t.B i)*t.T i j)
section
variable {fe m N:Nat} {A:Nat->Nat->Rat} {t:b2}
theorem hy.inj (h:hy fe m N A t){i k:Nat}(aa:i<m)(a2:k<m)(e:t.B i=t.B k):i=k:=by
 have h1:=h.unit i aa k a2;rw[<- e,h.unit i aa i aa,dw rfl] at h1;by_cases c:i=k
 ·exact c
 rw[dA c] at h1;grind
theorem hy.ct (h:hy fe m N A t){r k:Nat}(aj:r<m)(a2:k<N)(ah:t.T r k≠0):hy fe m N A (t.ct r k) where
 tY:=by
  intro c a0 j ay;rw[h.tY c a0 j ay];have o9:=h.tY c a0 k (by omega)
  have e:cy m (fun i=>A c ((t.ct r k).B i)*(t.ct r k).T i j)=cy m (fun i=>A c (t.B i)*t.T i j)+(t.T r j / t.T r k)*(A c k-cy m (fun i=>A c (t.B i)*t.T i k)):=by
   have e1 : ∀i,i<m->A c ((t.ct r k).B i)*(t.ct r k).T i j=(A c (t.B i)*t.T i j-(t.T r j / t.T r k)*(A c (t.B i)*t.T i k))+(if i=r then (t.T r j / t.T r k)*A c k else 0):=by
    intro i aa;simp only[b2.ct];by_cases e:i=r
    ·subst e;simp only[if_true];grind
    simp only[dA e];grind
   rw[gy e1,zC,us,ki,lT aj (f:=fun i=>if i=r then (t.T r j / t.T r k)*A c k else 0) (fun i _ di=>dA di),dw rfl];grind
  rw[e,<- o9];grind
 row:=by
  obtain⟨W,hW⟩:=h.row;refine⟨fun i c=>if i=r then W r c / t.T r k else W i c-t.T i k*(W r c / t.T r k),fun i aa j ay=> ?_⟩;simp only[b2.ct];by_cases e:i=r
  ·subst e;simp only[if_true];rw[gy (f:=fun c=>W i c / t.T i k*A c j) (g:=fun c=>(1 / t.T i k)*(W i c*A c j)) (fun c _=>by grind),ki,<- hW i aa j ay];grind
  simp only[dA e];rw[gy (f:=fun c=>(W i c-t.T i k*(W r c / t.T r k))*A c j) (g:=fun c=>W i c*A c j-(t.T i k / t.T r k)*(W r c*A c j)) (fun c _=>by grind),us,ki,<- hW i aa j ay,<- hW r aj j ay];grind
 unit:=by
  intro i aa ea o9;simp only[b2.ct];by_cases e:i=r
  ·subst e
   simp only[if_true];by_cases fl:ea=i
   ·subst fl;simp only[if_true];grind
   simp only[dA fl];rw[h.unit i aa ea o9,dA (fun x=>fl x.symm)];grind
  simp only[dA e];by_cases fl:ea=r
  ·subst fl;simp only[if_true,dA e];grind
  simp only[dA fl];rw[h.unit i aa ea o9,h.unit r aj ea o9,dA (c:=r=ea) (fun x=>fl x.symm)];grind
 jZ:=fun i aa=>by
  simp only[b2.ct];split
  ·exact a2
  exact h.jZ i aa
theorem hy.zx (h:hy fe m N A t)(obj:Nat->Rat){i:Nat}(aa:i<m):t.cw m obj (t.B i)=0:=by unfold b2.cw;rw[lT aa (f:=fun fA=>obj (t.B fA)*t.T fA (t.B i)) (fun k a2 di=>by rw[h.unit k a2 i aa,dA di];grind),h.unit i aa i aa,dw rfl];grind
theorem hy.Kn (h:hy fe m N A t)(obj:Nat->Rat){r k:Nat}(aj:r<m)(a2:k<N)(ah:t.T r k≠0)(j:Nat):
 (t.ct r k).cw m obj j=t.cw m obj j-t.cw m obj k*(t.T r j / t.T r k):=by
 unfold b2.cw
 have e1 : ∀i,i<m->obj ((t.ct r k).B i)*(t.ct r k).T i j=(obj (t.B i)*t.T i j-(t.T r j / t.T r k)*(obj (t.B i)*t.T i k))+(if i=r then (t.T r j / t.T r k)*obj k else 0):=by
  intro i aa;simp only[b2.ct];by_cases e:i=r
  ·subst e;simp only[if_true];grind
  simp only[dA e];grind
 rw[gy e1,zC,us,ki,lT aj (f:=fun i=>if i=r then (t.T r j / t.T r k)*obj k else 0) (fun i _ di=>dA di),dw rfl];grind
theorem hy.aiy (h:hy fe m N A t){z:Nat->Rat}(cB:∀c,c<fe->cy N (fun j=>A c j*z j)=0){i:Nat}(aa:i<m):cy N (fun j=>t.T i j*z j)=0:=by obtain⟨W,hW⟩:=h.row;rw[gy (g:=fun j=>cy fe (fun c=>W i c*(A c j*z j))) (fun j ay=>by rw[hW i aa j (by omega),<- wy];exact gy fun c _=>by grind),rU];exact oH fun c a0=>by rw[ki,cB c a0];grind
theorem hy.aiz (h:hy fe m N A t)(obj:Nat->Rat){z:Nat->Rat}(cB:∀c,c<fe->cy N (fun j=>A c j*z j)=0):
 cy N (fun j=>z j*t.cw m obj j)=cy N (fun j=>obj j*z j):=by
 unfold b2.cw;rw[gy (g:=fun j=>obj j*z j-cy m (fun i=>obj (t.B i)*(t.T i j*z j))) (fun j _=>by rw[gy (f:=fun i=>obj (t.B i)*(t.T i j*z j)) (g:=fun i=>z j*(obj (t.B i)*t.T i j)) (fun i _=>by grind),ki];grind),us,rU];rw[oH (n:=m) fun i aa=>by rw[ki,h.aiy cB aa];grind];grind
def b2.dir (m:Nat)(t:b2)(s j:Nat):Rat:=(if j=s then 1 else 0)-cy m (fun i=>if t.B i=j then t.T i s else 0)
theorem hy.XN (h:hy fe m N A t){s:Nat}(bM:s<N)(f:Nat->Rat):cy N (fun j=>f j*t.dir m s j)=f s-cy m (fun i=>f (t.B i)*t.T i s):=by unfold b2.dir;rw[gy (g:=fun j=>(if j=s then f s else 0)-cy m (fun i=>if t.B i=j then f (t.B i)*t.T i s else 0)) (fun j _=>by have e:cy m (fun i=>if t.B i=j then f (t.B i)*t.T i s else 0)=f j*cy m (fun i=>if t.B i=j then t.T i s else 0):=(by rw[<- ki];exact gy fun i _=>by split<;>grind);rw[e];split<;>grind),us,lT bM (f:=fun j=>if j=s then f s else 0) (fun i _ di=>dA di),dw rfl,rU];congr 1;exact gy fun i aa=>by rw[lT (h.jZ i aa) (f:=fun j=>if t.B i=j then f (t.B i)*t.T i s else 0) (fun j _ di=>dA fun x=>di x.symm),dw rfl]
theorem hy.aiA (h:hy fe m N A t){s:Nat}(bM:s<N): ∀c,c<fe->cy N (fun j=>A c j*t.dir m s j)=0:=by intro c a0;rw[h.XN bM,<- h.tY c a0 s (by omega)];grind
theorem hy.aiB (h:hy fe m N A t){s:Nat}(bM:s<N)(obj:Nat->Rat):cy N (fun j=>obj j*t.dir m s j)=t.cw m obj s:=h.XN bM obj
theorem hy.same {cI:b2}(h:hy fe m N A t)(c1:hy fe m N A cI)(e:∀i,i<m->t.B i=cI.B i){i:Nat}(aa:i<m){j:Nat}(ay:j<=N):t.T i j=cI.T i j:=by obtain⟨W,hW⟩:=h.row;rw[hW i aa j ay,gy (g:=fun c=>cy m (fun k=>W i c*(A c (cI.B k)*cI.T k j))) (fun c a0=>by rw[c1.tY c a0 j ay,ki]),rU];rw[gy (g:=fun k=>(if i=k then cI.T k j else 0)) (fun k a2=>by rw[gy (g:=fun c=>(W i c*A c (cI.B k))*cI.T k j) (fun c _=>by grind),wy,<- e k a2,<- hW i aa (t.B k) (Nat.le_of_lt (h.jZ k a2)),h.unit i aa k a2];split<;>grind)];rw[lT aa (f:=fun k=>if i=k then cI.T k j else 0) (fun k _ di=>dA fun x=>di x.symm),dw rfl]
end
def b2.m8 (m N:Nat)(t:b2):Prop:= ∀i,i<m->0<=t.T i N
def b2.rO (m K:Nat)(obj:Nat->Nat->Rat)(t:b2)(j:Nat):Prop:=jb K (fun l=>t.cw m (obj l) j)
structure pz (m N K:Nat) (obj:Nat->Nat->Rat) (bJ:Nat->Prop) (t:b2) (r s:Nat):Prop where
 bM:s<N
 Ij:bJ s
 gs:t.rO m K obj s
 least : ∀j,j<s->bJ j-> ¬t.rO m K obj j
 aj:r<m
 pos:0<t.T r s
 ratio : ∀i,i<m->0<t.T i s->t.T r N*t.T i s<=t.T i N*t.T r s
 tie : ∀i,i<m->0<t.T i s->t.T r N*t.T i s=t.T i N*t.T r s->t.B r<=t.B i
section
variable {fe m N K:Nat} {A obj:Nat->Nat->Rat} {bJ:Nat->Prop}
theorem pz.ok {t:b2}{r s:Nat}(b:pz m N K obj bJ t r s)(h:hy fe m N A t):hy fe m N A (t.ct r s):=h.ct b.aj b.bM (by have:=b.pos;grind)
theorem pz.HP {t:b2}{r s:Nat}(b:pz m N K obj bJ t r s)(h:t.m8 m N):(t.ct r s).m8 m N:=by
 intro i aa;have ah:=b.pos;have amh:=h r b.aj;have a1:0<=t.T r N / t.T r s:=by rw[Rat.div_def];exact aqb amh (Rat.le_of_lt (Rat.inv_pos.2 ah))
 simp only[b2.ct];split
 ·exact a1
 by_cases c:0<t.T i s
 ·have h1:=b.ratio i aa c;have h2:t.T i s*(t.T r N / t.T r s)<=t.T i N:=(by have e:t.T i s*(t.T r N / t.T r s)=(t.T r N*t.T i s)*(1 / t.T r s):=(by grind);have e2:t.T i N=(t.T i N*t.T r s)*(1 / t.T r s):=(by grind);rw[e,e2];exact Rat.mul_le_mul_of_nonneg_right h1 (by rw[Rat.div_def,Rat.one_mul];exact Rat.le_of_lt (Rat.inv_pos.2 ah)));grind
 have h1:=h i aa;have h2:0<=(- t.T i s)*(t.T r N / t.T r s):=aqb (by grind) a1;grind
theorem V3 (f:Nat->Nat): ∀p,0<p-> ∃b,b<p/\ ∀k,k<p->f k<=f b
 | 0,h=>by omega
 | 1,_=>⟨0,by omega,fun k a2=>by rw[show k=0 by omega];exact dD _⟩
 | p+2,_=>by
  obtain⟨b,h1,h2⟩:=V3 f (p+1) (by omega);by_cases c:f (p+1)<=f b
  ·exact⟨b,by omega,fun k a2=>if e:k=p+1 then e▸c else h2 k (by omega)⟩
  exact⟨p+1,by omega,fun k a2=>if e:k=p+1 then e▸dD _ else Nat.le_trans (h2 k (by omega)) (by omega)⟩
theorem aiC {t:Nat->b2}{r s:Nat->Nat}{p:Nat}(ah:0<p)(h0:hy fe m N A (t 0))(f0:(t 0).m8 m N)
 (da : ∀n,n<p->pz m N K obj bJ (t n) (r n) (s n)) (qm : ∀n,n<p->t (n+1)=(t n).ct (r n) (s n)) (back : ∀i,i<m->(t p).B i=(t 0).B i):False:=by
 have ok : ∀n,n<=p->hy fe m N A (t n)/\(t n).m8 m N:=by
  intro n
  induction n with
  | zero=>intro _;exact⟨h0,f0⟩
  | succ n ih =>
   intro aU;obtain⟨a,b⟩:=ih (by omega);rw[qm n (by omega)];exact⟨(da n (by omega)).ok a,(da n (by omega)).HP b⟩
 have anw : ∀n,n<p->0<=(t n).T (r n) N / (t n).T (r n) (s n):=fun n aU=>by rw[Rat.div_def];exact aqb ((ok n (by omega)).2 _ (da n aU).aj) (Rat.le_of_lt (Rat.inv_pos.2 (da n aU).pos))
 have gP : ∀n,n<=p->jb K (fun l=>(t 0).cw m (obj l) N-(t n).cw m (obj l) N)\/(GZ K (fun l=>(t 0).cw m (obj l) N-(t n).cw m (obj l) N)/\ ∀k,k<n->(t k).T (r k) N=0):=by
  intro n
  induction n with
  | zero=>intro _;exact .inr ⟨fun l _=>by grind,fun k a2=>by omega⟩
  | succ n ih =>
   intro aU;have b:=da n (by omega);have ly:=b.pos;have e : ∀l,(t 0).cw m (obj l) N-(t (n+1)).cw m (obj l) N=((t n).T (r n) N / (t n).T (r n) (s n))*(t n).cw m (obj l) (s n)+((t 0).cw m (obj l) N-(t n).cw m (obj l) N):=fun l=>(by rw[qm n (by omega),(ok n (by omega)).1.Kn (obj l) b.aj b.bM (by grind)];grind);by_cases c:(t n).T (r n) N=0
   ·have z : ∀l,(t 0).cw m (obj l) N-(t (n+1)).cw m (obj l) N=(t 0).cw m (obj l) N-(t n).cw m (obj l) N:=fun l=>by rw[e,c];grind
    rcases ih (by omega) with h|⟨h1,h2⟩
    ·exact .inl (h.congr fun l _=>(z l).symm)
    refine .inr ⟨fun l aR=>by have:=h1 l aR;simp only at this ⊢;rw[z l];exact this,fun k a2=> ?_⟩;by_cases v9:k=n
    ·rw[v9];exact c
    exact h2 k (by omega)
   have QX:0<(t n).T (r n) N / (t n).T (r n) (s n):=(by have h1:=anw n (by omega);have h2:(t n).T (r n) N / (t n).T (r n) (s n)≠0:=fun x=>c (by grind);grind);have g1:jb K (fun l=>((t n).T (r n) N / (t n).T (r n) (s n))*(t n).cw m (obj l) (s n)):=jb.mul b.gs QX;left;rcases ih (by omega) with h|⟨h1,-⟩
   ·exact(g1.add h).congr fun l _=>(e l).symm
   exact(g1.add_zero h1).congr fun l _=>(e l).symm
 have zero : ∀k,k<p->(t k).T (r k) N=0:=by
  rcases gP p (dD _) with h|h
  ·refine(h.not_zero fun l _=> ?_).elim;unfold b2.cw;rw[gy (f:=fun i=>obj l ((t p).B i)*(t p).T i N) (g:=fun i=>obj l ((t 0).B i)*(t 0).T i N) fun i aa=>by rw[back i aa,(ok p (dD _)).1.same (ok 0 (by omega)).1 back aa (dD _)]];grind
  exact h.2
 have const : ∀n,n<=p-> ∀i,i<m->(t n).T i N=(t 0).T i N:=by
  intro n
  induction n with
  | zero=>intros;rfl
  | succ n ih =>
   intro aU i aa;rw[<- ih (by omega) i aa,qm n (by omega)];simp only[b2.ct];have:=zero n (by omega);split
   ·rename_i e;rw[e,this];grind
   rw[this];grind
 have Qf : ∀n,n<p-> ∀i,i<m->(t n).B i≠s n:=fun n aU i aa e=>by refine jb.not_zero (da n aU).gs fun l _=> ?_;rw[<- e];exact(ok n (by omega)).1.zx (obj l) aa
 have IZ : ∀d n,n+d<=p-> ∀j,(∀i,i<m->(t n).B i≠j)->(∀k,n<=k->k<n+d->s k≠j)-> ∀i,i<m->(t (n+d)).B i≠j:=by
  intro d
  induction d with
  | zero=>intro n aU j h1 h2;exact h1
  | succ d ih =>
   intro n aU j h1 h2 i aa;rw[<- Nat.add_assoc,qm (n+d) (by omega)];simp only[b2.ct];split
   ·exact h2 (n+d) (by omega) (by omega)
   exact ih n (by omega) j h1 (fun k a b=>h2 k a (by omega)) i aa
 have aaL : ∀d n,n+d<=p-> ∀i,i<m->(∀k,n<=k->k<n+d->r k≠i)->(t (n+d)).B i=(t n).B i:=by
  intro d
  induction d with
  | zero=>intros;rfl
  | succ d ih =>
   intro n aU i aa h2;rw[<- Nat.add_assoc,qm (n+d) (by omega)];simp only[b2.ct];rw[dA fun e=>h2 (n+d) (by omega) (by omega) e.symm];exact ih n (by omega) i aa (fun k a b=>h2 k a (by omega))
 have aaM : ∀d n,n+d<=p-> ∀i,i<m-> ∀q,(t n).B i=q->(∀k,n<=k->k<n+d->(t k).B (r k)≠q)->(t (n+d)).B i=q:=by
  intro d
  induction d with
  | zero=>intro n aU i aa q h1 h2;exact h1
  | succ d ih =>
   intro n aU i aa q h1 h2;have J:=ih n (by omega) i aa q h1 (fun k a b=>h2 k a (by omega));rw[<- Nat.add_assoc,qm (n+d) (by omega)];simp only[b2.ct];rw[dA fun e=>h2 (n+d) (by omega) (by omega) (by rw[<- e];exact J)];exact J
 obtain⟨b,a3,Zj⟩:=V3 s p ah;have Bd:=da b a3;have anx : ∃a,a<p/\(t a).B (r a)=s b:=by apply Classical.byContradiction;intro di;have kG : ∀a,a<p->(t a).B (r a)≠s b:=fun a bF e=>di ⟨a,bF,e⟩;have e1:(t (b+1)).B (r b)=s b:=(by rw[qm b a3];simp[b2.ct]);have e2:=aaM (p-(b+1)) (b+1) (by omega) (r b) Bd.aj (s b) e1 (fun k _ a2=>kG k (by omega));rw[show b+1+(p-(b+1))=p by omega,back _ Bd.aj] at e2;have bG:=aaM b 0 (by omega) (r b) Bd.aj (s b) e2 (fun k _ a2=>kG k (by omega));rw[dG] at bG;exact Qf b a3 _ Bd.aj bG
 obtain⟨a,bF,a1⟩:=anx;have yJ:=da a bF;have Me:=(ok a (by omega)).1;have ZX:=(ok b (by omega)).1;have Qg:s a<s b:=by have h1:=Zj a bF;have h2:s a≠s b:=fun e=>Qf a bF (r a) yJ.aj (a1.trans e.symm);omega
 have Zk:jb K (fun l=>cy N (fun j=>(t a).dir m (s a) j*(t b).cw m (obj l) j)) :=
  jb.congr yJ.gs fun l _=>by rw[ZX.aiz (obj l) (Me.aiA yJ.bM),Me.aiB yJ.bM]
 obtain⟨j,ay,alp⟩:=jb.OY (v:=fun j l=>(t a).dir m (s a) j*(t b).cw m (obj l) j) Zk;have hmul:=alp.Yv;by_cases yK:j=s a
 ·have bD:(t a).dir m (s a) j=1:=by
   unfold b2.dir;rw[dw yK,oH fun i aa=>dA (by rw[yK];exact Qf a bF i aa)];grind
  rw[bD] at hmul;rcases hmul with ⟨-,h⟩|⟨h,-⟩
  ·rw[yK] at h;exact Bd.least (s a) Qg yJ.Ij h
  grind
 by_cases Zl : ∃i,i<m/\(t a).B i=j;rotate_left
 ·have bD:(t a).dir m (s a) j=0:=by
   unfold b2.dir;rw[dA yK,oH fun i aa=>dA fun e=>Zl ⟨i,aa,e⟩];grind
  rw[bD] at hmul;rcases hmul with ⟨h,-⟩|⟨h,-⟩<;>grind
 obtain⟨i,aa,rB⟩:=Zl;have bD:(t a).dir m (s a) j = - (t a).T i (s a):=by unfold b2.dir;rw[dA yK,lT aa (fun k a2 di=>dA fun e=>di (Me.inj a2 aa (e.trans rB.symm))),dw rB];grind
 rw[bD] at hmul
 have ZY : ∀k,k<m->(t b).B k≠j:=fun k a2 e=>by
  have z:GZ K (fun l=>(t b).cw m (obj l) j):=fun l _=>(by rw[<- e];exact ZX.zx (obj l) a2);rcases hmul with ⟨-,h⟩|⟨-,h⟩
  ·exact h.not_zero z
  exact h.not_zero fun l aR=>by have:=z l aR;simp only at this ⊢;grind
 have ami : ∃k,k<p/\s k=j:=by apply Classical.byContradiction;intro di;have kG : ∀k,k<p->s k≠j:=fun k a2 e=>di ⟨k,a2,e⟩;have e1:=IZ (p-b) b (by omega) j ZY (fun k _ a2=>kG k (by omega));rw[show b+(p-b)=p by omega] at e1;have e2:=IZ a 0 (by omega) j (fun k a2=>by rw[<- back k a2];exact e1 k a2) (fun k _ a2=>kG k (by omega));rw[dG] at e2;exact e2 i aa rB
 obtain⟨k,a2,Ig⟩:=ami;have ao8:j<=s b:=by rw[<- Ig];exact Zj k a2
 have amj:bJ j:=by rw[<- Ig];exact(da k a2).Ij
 have alq : ∃k,k<p/\r k=i:=by apply Classical.byContradiction;intro di;have kG : ∀k,k<p->r k≠i:=fun k a2 e=>di ⟨k,a2,e⟩;have e1:=aaL a 0 (by omega) i aa (fun k _ a2=>kG k (by omega));have e2:=aaL b 0 (by omega) i aa (fun k _ a2=>kG k (by omega));rw[dG] at e1 e2;exact ZY i aa (by rw[e2,<- e1];exact rB)
 obtain⟨j3,LP,alr⟩:=alq;have cB:(t a).T i N=0:=by rw[const a (by omega) i aa,<- const j3 (by omega) i aa,<- alr];exact zero j3 LP
 rcases hmul with ⟨h1,h2⟩|⟨h1,h2⟩
 ·have amk:j≠s b:=fun e=>by
   have:i=r a:=Me.inj aa yJ.aj (by rw[rB,a1,e]);have ah:=yJ.pos;rw[<- this] at ah;grind
  exact Bd.least j (by omega) amj h2
 have amk:j≠s b:=fun e=>by rw[e] at h2;exact jb.not_neg Bd.gs h2
 have ly:0<(t a).T i (s a):=by grind
 have:=yJ.tie i aa ly (by rw[cB,zero a bF];grind);rw[a1,rB] at this;omega
end
theorem OZ : ∀(M p:Nat) (f:Nat->Nat),(∀n,n<p->f n<M)->(∀a b,a<p->b<p->f a=f b->a=b)->p<=M
 | 0,p,f,h,_=>by
  cases p with
  | zero=>exact dD _
  | succ p=>have:=h 0 (by omega);omega
 | M+1,p,f,h,aa=>by
  by_cases c : ∃n,n<p/\f n=M
  ·obtain⟨mu,h0,e0⟩:=c
   have:=OZ M (p-1) (fun n=>f (if n<mu then n else n+1)) (fun n aU=>by
    have h1:=h (if n<mu then n else n+1) (by split<;>omega);have h2:f (if n<mu then n else n+1)≠M:=fun e=>(by have:=aa _ _ (by split<;>omega) h0 (e.trans e0.symm);split at this<;>omega);omega) (fun a b bF a3 e=>by
    have:=aa _ _ (by split<;>omega) (by split<;>omega) e;split at this<;>split at this<;>omega)
   omega
  have:=OZ M p f (fun n aU=>by have h1:=h n aU;have h2:f n≠M:=fun e=>c ⟨n,aU,e⟩;omega) aa;omega
def code (N:Nat)(B:Nat->Nat):Nat->Nat
 | 0=>0
 | m+1=>code N B m+B m*N ^ m
theorem KC {N:Nat}{B:Nat->Nat}: ∀ {m:Nat},(∀i,i<m->B i<N)->code N B m<N ^ m
 | 0,_=>by simp[code]
 | m+1,h=>by have h1:=KC (m:=m) fun i aa=>h i (by omega);have h2:=h m (by omega);have J:(B m+1)*N ^ m<=N*N ^ m:=apV _ h2;rw[Nat.add_mul] at J;rw[code,Nat.pow_succ,Nat.mul_comm (N ^ m) N];omega
theorem Xe {N:Nat}{B uh:Nat->Nat}: ∀ {m:Nat},(∀i,i<m->B i<N)->(∀i,i<m->uh i<N)->code N B m=code N uh m-> ∀i,i<m->B i=uh i
 | 0,_,_,_,i,aa=>by omega
 | m+1,h,c1,e,i,aa=>by
  have h1:=KC (m:=m) fun i aa=>h i (by omega);have h2:=KC (m:=m) fun i aa=>c1 i (by omega);rw[code,code] at e;have ly:0<N ^ m:=(by omega);have e1:B m=uh m:=(by have gh:(code N B m+B m*N ^ m) / N ^ m=B m:=(by rw[Nat.add_mul_div_right _ _ ly,Nat.div_eq_of_lt h1];omega);have gi:(code N uh m+uh m*N ^ m) / N ^ m=uh m:=(by rw[Nat.add_mul_div_right _ _ ly,Nat.div_eq_of_lt h2];omega);rw[<- gh,<- gi,e]);rw[e1] at e;by_cases c:i=m
  ·rw[c];exact e1
  exact Xe (m:=m) (fun i aa=>h i (by omega)) (fun i aa=>c1 i (by omega)) (by omega) i (by omega)
section
variable {fe m N K:Nat} {A obj:Nat->Nat->Rat} {bJ:Nat->Prop}
structure HQ (m N K:Nat) (obj:Nat->Nat->Rat) (bJ:Nat->Prop) (t:Nat->b2) (r s:Nat->Nat) (p:Nat):Prop where
 da : ∀n,n<p->pz m N K obj bJ (t n) (r n) (s n)
 qm : ∀n,n<p->t (n+1)=(t n).ct (r n) (s n)
theorem HQ.ok {t:Nat->b2}{r s:Nat->Nat}{p:Nat}(h:HQ m N K obj bJ t r s p)(h0:hy fe m N A (t 0))(f0:(t 0).m8 m N): ∀n,n<=p->hy fe m N A (t n)/\(t n).m8 m N:=by
 intro n
 induction n with
 | zero=>intro _;exact⟨h0,f0⟩
 | succ n ih =>
  intro aU;obtain⟨a,b⟩:=ih (by omega);rw[h.qm n (by omega)];exact⟨(h.da n (by omega)).ok a,(h.da n (by omega)).HP b⟩
theorem HQ.short {t:Nat->b2}{r s:Nat->Nat}{p:Nat}(h:HQ m N K obj bJ t r s p)(h0:hy fe m N A (t 0))(f0:(t 0).m8 m N):p+1<=N ^ m:=by
 have ok:=h.ok h0 f0;refine OZ (N ^ m) (p+1) (fun n=>code N (t n).B m) (fun n aU=>KC (ok n (by omega)).1.jZ) fun a b bF a3 e=> ?_
 have key : ∀a b,a<b->b<=p->code N (t a).B m=code N (t b).B m->False:=fun a b yu a3 e=>by
  have gN:=Xe (ok a (by omega)).1.jZ (ok b a3).1.jZ e
  exact aiC (t:=fun n=>t (a+n)) (r:=fun n=>r (a+n)) (s:=fun n=>s (a+n)) (p:=b-a) (by omega) (ok a (by omega)).1 (ok a (by omega)).2
   (fun n aU=>h.da (a+n) (by omega)) (fun n aU=>h.qm (a+n) (by omega)) (fun i aa=>by show (t (a+(b-a))).B i=(t a).B i;rw[show a+(b-a)=b by omega];exact(gN i aa).symm)
 rcases Nat.lt_trichotomy a b with c|c|c
 ·exact(key a b c (by omega) e).elim
 ·exact c
 exact(key b a c (by omega) e.symm).elim
theorem V4 {jG aa6:Type}{f:jG->Option (jG⊕aa6)}(a8:jG->b2->Prop)(E:jG->aa6->b2->Prop)
 (step : ∀a t,a8 a t->hy fe m N A t->t.m8 m N->(∃x,f a=some (.inr x)/\E a x t)\/ ∃eF r s,f a=some (.inl eF)/\pz m N K obj bJ t r s/\a8 eF (t.ct r s))
 {a:jG} {t:b2} (dv:a8 a t) (h0:hy fe m N A t) (f0:t.m8 m N) : ∃x eF cI,iter f a=some x/\a8 eF cI/\hy fe m N A cI/\cI.m8 m N/\E eF x cI:=by
 have key : ∀k p (T:Nat->b2) (r s:Nat->Nat),N ^ m<=p+k->HQ m N K obj bJ T r s p->hy fe m N A (T 0)->(T 0).m8 m N-> ∀a,a8 a (T p)-> ∃x eF cI,iter f a=some x/\a8 eF cI/\hy fe m N A cI/\cI.m8 m N/\E eF x cI:=by
  intro k
  induction k with
  | zero =>
   intro p T r s a2 h h0 f0 a dv;have:=h.short h0 f0;omega
  | succ k ih =>
   intro p T r s a2 h h0 f0 a dv;obtain⟨ok,l5⟩:=h.ok h0 f0 p (dD _);rcases step a (T p) dv ok l5 with ⟨x,U,he⟩|⟨eF,fH,b8,cq,a3,aml⟩
   ·exact⟨x,a,T p,by rw[iter,U];rfl,dv,ok,l5,he⟩
   obtain⟨x,gi,t2,e1,e2⟩:=ih (p+1) (fun n=>if n<=p then T n else (T p).ct fH b8) (fun n=>if n<p then r n else fH) (fun n=>if n<p then s n else b8) (by omega)
    ⟨fun n aU=>by
     by_cases c:n<p
     ·rw[dw (by omega),dw c,dw c];exact h.da n c
     ·rw[dw (by omega),dA c,dA c,show n=p by omega];exact a3,
     fun n aU=>by
      by_cases c:n<p
      ·rw[dw (by omega),dw (by omega),dw c,dw c];exact h.qm n c
      rw[dA (by omega),dw (by omega),dA c,dA c,show n=p by omega]⟩ (by simpa using h0) (by simpa using f0) eF (by rw[dA (by omega)];exact aml)
   exact⟨x,gi,t2,by rw[iter,cq];exact e1,e2⟩
 exact key (N ^ m) 0 (fun _=>t) (fun _=>0) (fun _=>0) (by omega) ⟨fun n aU=>by omega,fun n aU=>by omega⟩ h0 f0 a dv
theorem hy.value {t:b2}(h:hy fe m N A t)(o:Nat->Rat){z:Nat->Rat}(cB:∀c,c<fe->cy N (fun j=>A c j*z j)=A c N):
 cy N (fun j=>o j*z j)=cy m (fun i=>o (t.B i)*t.T i N)+cy N (fun j=>z j*t.cw m o j):=by
 obtain⟨W,hW⟩:=h.row;have aj : ∀i,i<m->cy N (fun j=>t.T i j*z j)=t.T i N:=fun i aa=>by rw[gy (g:=fun j=>cy fe (fun c=>W i c*(A c j*z j))) (fun j ay=>by rw[hW i aa j (by omega),<- wy];exact gy fun c _=>by grind),rU,hW i aa N (dD _)];exact gy fun c a0=>by rw[ki,cB c a0]
 unfold b2.cw;rw[gy (f:=fun j=>z j*(o j-cy m fun i=>o (t.B i)*t.T i j)) (g:=fun j=>o j*z j-cy m (fun i=>o (t.B i)*(t.T i j*z j))) (fun j _=>by rw[gy (f:=fun i=>o (t.B i)*(t.T i j*z j)) (g:=fun i=>z j*(o (t.B i)*t.T i j)) (fun i _=>by grind),ki];grind),us,rU];rw[gy (f:=fun i=>cy N fun j=>o (t.B i)*(t.T i j*z j)) (g:=fun i=>o (t.B i)*t.T i N) fun i aa=>by rw[ki,aj i aa]];grind
def b2.hH (m N:Nat)(t:b2)(j:Nat):Rat:=cy m (fun i=>if t.B i=j then t.T i N else 0)
theorem hy.G0 {t:b2}(h:hy fe m N A t)(f:Nat->Rat):cy N (fun j=>f j*t.hH m N j)=cy m (fun i=>f (t.B i)*t.T i N):=by unfold b2.hH;rw[gy (g:=fun j=>cy m (fun i=>if t.B i=j then f (t.B i)*t.T i N else 0)) (fun j _=>by rw[<- ki];exact gy fun i _=>by split<;>grind),rU];exact gy fun i aa=>by rw[lT (h.jZ i aa) (f:=fun j=>if t.B i=j then f (t.B i)*t.T i N else 0) (fun j _ di=>dA fun x=>di x.symm),dw rfl]
theorem hy.aka {t:b2}(h:hy fe m N A t): ∀c,c<fe->cy N (fun j=>A c j*t.hH m N j)=A c N:=fun c a0=>by rw[h.G0,<- h.tY c a0 N (dD _)]
theorem b2.m8.hH {t:b2}(h:t.m8 m N)(j:Nat):0<=t.hH m N j:=wt fun i aa=>by split;exact h i aa;exact Rat.le_refl
theorem b2.NH {t:b2}{j:Nat}(h:∀i,i<m->t.B i≠j):t.hH m N j=0:=oH fun i aa=>dA (h i aa)
end
def skip {α:Type}(i:Nat)(f:Nat->α)(k:Nat):α:=f (if k<i then k else k+1)
def hQ {α:Type}(M:Nat->α)(k:Nat)(v:α)(i:Nat):α:=if i=k then v else M i
def uU (n:Nat):Rat:=if n % 2=0 then 1 else -1
theorem aiD (n:Nat):uU (n+1) = - uU n:=by
 unfold uU;by_cases h:n % 2=0
 ·rw[dw h,dA (by omega)]
 rw[dA h,dw (by omega)];grind
def j0:Nat->(Nat->Nat->Rat)->Rat
 | 0,_=>1
 | n+1,M=>cy (n+1) (fun i=>uU (i+n)*M i n*j0 n (skip i M))
theorem J9 : ∀ {n:Nat} {M E7:Nat->Nat->Rat},(∀i,i<n-> ∀c,c<n->M i c=E7 i c)->j0 n M=j0 n E7
 | 0,_,_,_=>rfl
 | n+1,M,E7,h=>by rw[j0,j0];exact gy fun i aa=>by rw[h i aa n (by omega),J9 (M:=skip i M) (E7:=skip i E7) fun k a2 c a0=> ?_];simp only[skip];exact h _ (by split<;>omega) c (by omega)
theorem ND {α:Type}(M:Nat->α)(k:Nat)(v:α):skip k (hQ M k v)=skip k M:=by funext i;simp only[skip,hQ];rw[dA];split<;>omega
theorem NO {α:Type}(M:Nat->α){i k:Nat}(v:α)(h:k<i):skip i (hQ M k v)=hQ (skip i M) k v:=by
 funext j;simp only[skip,hQ];by_cases c:j=k
 ·subst c;rw[dw h,dw rfl]
 rw[dA c,dA];split<;>omega
theorem NP {α:Type}(M:Nat->α){i k:Nat}(v:α)(h:i<k):skip i (hQ M k v)=hQ (skip i M) (k-1) v:=by
 funext j;simp only[skip,hQ];by_cases c:j=k-1
 ·rw[dw c,dw (by split<;>omega)]
 rw[dA c,dA];split<;>omega
theorem DV : ∀ {n k:Nat} (M:Nat->Nat->Rat) (a b:Rat) (u v:Nat->Rat),k<n ->
 j0 n (hQ M k (fun c=>a*u c+b*v c))=a*j0 n (hQ M k u)+b*j0 n (hQ M k v)
 | 0,k,_,_,_,_,_,h=>by omega
 | n+1,k,M,a,b,u,v,a2=>by
  rw[j0,j0,j0,<- ki,<- ki,<- zC];refine gy fun i aa=> ?_;rcases Nat.lt_trichotomy i k with c|c|c
  ·rw[NP _ _ c,NP _ _ c,NP _ _ c,DV (skip i M) a b u v (by omega)];simp only[hQ,dA (Nat.ne_of_lt c)];grind
  ·subst c;rw[ND,ND,ND];simp only[hQ,if_true];grind
  rw[NO _ _ c,NO _ _ c,NO _ _ c,DV (skip i M) a b u v (by omega)];simp only[hQ,dA (Nat.ne_of_gt c)];grind
theorem N8 {α:Type}(M:Nat->α)(k:Nat):hQ M k (M k)=M:=by
 funext i;simp only[hQ];split
 ·rename_i e;rw[e]
 rfl
theorem XO {n k:Nat}(a2:k<n)(M:Nat->Nat->Rat)(x:Nat->Rat)(V:Nat->Nat->Rat): ∀m,j0 n (hQ M k (fun c=>cy m (fun i=>x i*V i c)))=cy m (fun i=>x i*j0 n (hQ M k (V i)))
 | 0=>by have:=DV M 0 0 (fun _=>0) (fun _=>0) a2;simp only[cy];rw[show (fun c=>(0:Rat))=(fun c:Nat=>0*(0:Rat)+0*0) from by funext c;grind,this];grind
 | m+1=>by have h1:=DV M 1 (x m) (fun c=>cy m (fun i=>x i*V i c)) (V m) a2;simp only[cy];rw[show (fun c=>(cy m fun i=>x i*V i c)+x m*V m c)=(fun c=>1*(cy m fun i=>x i*V i c)+x m*V m c) from by funext c;grind,h1,XO a2 M x V m];grind
theorem KD : ∀ {n k:Nat} (M:Nat->Nat->Rat),k+1<n->M k=M (k+1)->j0 n M=0
 | 0,k,_,h,_=>by omega
 | n+1,k,M,h,e=>by
  rw[j0]
  have bM:skip k M=skip (k+1) M:=by
   funext i;simp only[skip];by_cases c:i=k
   ·subst c;rw[dA (by omega),dw (by omega)];exact e.symm
   congr 1;split<;>split<;>omega
  have h0 : ∀i,i<n+1->i≠k->i≠k+1->uU (i+n)*M i n*j0 n (skip i M)=0:=by
   intro i aa h1 h2
   have:j0 n (skip i M)=0:=by
    by_cases c:i<k
    ·exact KD (k:=k-1) _ (by omega) (by simp only[skip];rw[dA (by omega),dA (by omega),show k-1+1=k by omega];exact e)
    exact KD (k:=k) _ (by omega) (by simp only[skip];rw[dw (by omega),dw (by omega)];exact e)
   rw[this];grind
  have e2 : ∀i,i<n+1->uU (i+n)*M i n*j0 n (skip i M)=(if i=k then uU (k+n)*M k n*j0 n (skip k M) else 0)+(if i=k+1 then uU (k+1+n)*M (k+1) n*j0 n (skip (k+1) M) else 0):=by
   intro i aa;by_cases bf:i=k
   ·rw[dw bf,dA (by omega),bf];grind
   by_cases cx:i=k+1
   ·rw[dA bf,dw cx,cx];grind
   rw[dA bf,dA cx,h0 i aa bf cx];grind
  rw[gy e2,zC,lT (k:=k) (by omega) (fun i _ di=>dA di),lT (k:=k+1) (by omega) (fun i _ di=>dA di),dw rfl,dw rfl,<- bM,<- e,show k+1+n=k+n+1 by omega,aiD];grind
def Hq {α:Type}(M:Nat->α)(k i:Nat):α:=if i=k then M (k+1) else if i=k+1 then M k else M i
theorem aiE {n k:Nat}(M:Nat->Nat->Rat)(h:k+1<n):j0 n (Hq M k) = - j0 n M:=by
 have two : ∀u v:Nat->Rat,j0 n (hQ (hQ M k u) (k+1) v) = - j0 n (hQ (hQ M k v) (k+1) u):=by
  intro u v;have h0 : ∀w:Nat->Rat,j0 n (hQ (hQ M k w) (k+1) w)=0:=fun w=>KD (k:=k) _ h (by funext c;simp[hQ])
  have comm : ∀u v:Nat->Rat,hQ (hQ M k u) (k+1) v=hQ (hQ M (k+1) v) k u:=by
   intro u v;funext i;simp only[hQ];by_cases bf:i=k
   ·subst bf;simp
   simp[bf]
  have ko : ∀w u v:Nat->Rat,j0 n (hQ (hQ M k w) (k+1) (fun c=>1*u c+1*v c))=1*j0 n (hQ (hQ M k w) (k+1) u)+1*j0 n (hQ (hQ M k w) (k+1) v):=fun w u v=>DV (hQ M k w) 1 1 u v h;have lq : ∀w u v:Nat->Rat,j0 n (hQ (hQ M k (fun c=>1*u c+1*v c)) (k+1) w)=1*j0 n (hQ (hQ M k u) (k+1) w)+1*j0 n (hQ (hQ M k v) (k+1) w):=fun w u v=>(by rw[comm,comm,comm];exact DV (hQ M (k+1) w) 1 1 u v (by omega));have:=h0 (fun c=>1*u c+1*v c);rw[ko,lq,lq,h0,h0] at this;grind
 have e1:Hq M k=hQ (hQ M k (M (k+1))) (k+1) (M k):=by
  funext i;simp only[Hq,hQ];by_cases bf:i=k
  ·subst bf;simp
  simp[bf]
 have e2:hQ (hQ M k (M k)) (k+1) (M (k+1))=M:=by rw[N8,N8]
 rw[e1,two,e2]
theorem O0 : ∀(d:Nat) {n a:Nat} (M:Nat->Nat->Rat),a+d+1<n->M a=M (a+d+1)->j0 n M=0
 | 0,n,a,M,h,e=>KD M h e
 | d+1,n,a,M,h,e=>by have h1:=O0 d (n:=n) (a:=a) (Hq M (a+d+1)) (by omega) (by simp only[Hq];rw[dA (by omega),dA (by omega)];rw[dw trivial];exact e);rw[aiE M (by omega)] at h1;grind
theorem ajs {n a b:Nat}(M:Nat->Nat->Rat)(bF:a<n)(a3:b<n)(yu:a≠b)(e:M a=M b):j0 n M=0:=by
 rcases Nat.lt_or_gt_of_ne yu with c|c
 ·exact O0 (b-a-1) M (a:=a) (by omega) (by rw[show a+(b-a-1)+1=b by omega];exact e)
 exact O0 (a-b-1) M (a:=b) (by omega) (by rw[show b+(a-b-1)+1=a by omega];exact e.symm)
def d6 (K:Nat)(x:Rat):Prop:= ∃z:Int,x=z/\z.natAbs<=K
theorem d6.mono {K ui:Nat}{x:Rat}(h:d6 K x)(a2:K<=ui):d6 ui x:=by obtain⟨z,e,h⟩:=h;exact⟨z,e,Nat.le_trans h a2⟩
theorem d6.add {K ui:Nat}{x y:Rat}(h:d6 K x)(c1:d6 ui y):d6 (K+ui) (x+y):=by obtain⟨a,rfl,bF⟩:=h;obtain⟨b,rfl,a3⟩:=c1;exact⟨a+b,by rw[Rat.intCast_add],by omega⟩
theorem d6.neg {K:Nat}{x:Rat}(h:d6 K x):d6 K (-x):=by obtain⟨a,rfl,bF⟩:=h;exact⟨-a,by rw[Rat.intCast_neg],by omega⟩
theorem d6.sub {K ui:Nat}{x y:Rat}(h:d6 K x)(c1:d6 ui y):d6 (K+ui) (x-y):=by have:=h.add c1.neg;rw[show x + -y=x-y by grind] at this;exact this
theorem d6.mul {K ui:Nat}{x y:Rat}(h:d6 K x)(c1:d6 ui y):d6 (K*ui) (x*y):=by obtain⟨a,rfl,bF⟩:=h;obtain⟨b,rfl,a3⟩:=c1;exact⟨a*b,by rw[aqa],by rw[Int.natAbs_mul];exact Nat.mul_le_mul bF a3⟩
theorem d6.sum {K:Nat}{f:Nat->Rat}: ∀ {n:Nat},(∀i,i<n->d6 K (f i))->d6 (n*K) (cy n f)
 | 0,_=>⟨0,rfl,by simp⟩
 | n+1,h=>by have:=(d6.sum (n:=n) fun i aa=>h i (by omega)).add (h n (by omega));rw[<- Nat.succ_mul] at this;exact this
theorem akb (n:Nat):d6 1 (uU n):=by
 unfold uU;split
 ·exact⟨1,rfl,by omega⟩
 exact⟨-1,rfl,by omega⟩
def nz (K:Nat):Nat->Nat
 | 0=>1
 | n+1=>(n+1)*(K*nz K n)
theorem xZ {K:Nat}: ∀ {n:Nat} {M:Nat->Nat->Rat},(∀i,i<n-> ∀c,c<n->d6 K (M i c))->d6 (nz K n) (j0 n M)
 | 0,_,_=>⟨1,rfl,by simp[nz]⟩
 | n+1,M,h=>d6.sum fun i aa=>by have:=((akb (i+n)).mul (h i aa n (by omega))).mul (xZ (n:=n) (M:=skip i M) fun k a2 c a0=>h _ (by split<;>omega) c (by omega));rw[Nat.one_mul] at this;exact this
theorem zN {K:Nat}(jh:0<K): ∀ {n k:Nat},n<=k->nz K n<=nz K k
 | n,0,h=>by rw[show n=0 by omega];exact dD _
 | n,k+1,h=>by
  by_cases c:n=k+1
  ·rw[c];exact dD _
  refine Nat.le_trans (zN jh (k:=k) (by omega)) ?_;rw[nz];have:1*nz K k<=K*nz K k:=apV _ jh;have h2:1*(K*nz K k)<=(k+1)*(K*nz K k):=apV _ (by omega);omega
section
variable {m N:Nat} {A:Nat->Nat->Rat} {t:b2}
def b2.D (m:Nat)(A:Nat->Nat->Rat)(t:b2):Rat:=j0 m (fun i c=>A c (t.B i))
def b2.yL (m:Nat)(A:Nat->Nat->Rat)(t:b2)(i j:Nat):Rat:=j0 m (hQ (fun i c=>A c (t.B i)) i (fun c=>A c j))
theorem hy.yL (h:hy m m N A t){i j:Nat}(aa:i<m)(ay:j<=N):t.yL m A i j=t.T i j*t.D m A:=by
 have e:t.yL m A i j=j0 m (hQ (fun i c=>A c (t.B i)) i (fun c=>cy m (fun k=>t.T k j*(fun i c=>A c (t.B i)) k c))):=by
  refine J9 fun k a2 c a0=> ?_;simp only[hQ];split
  ·show A c j=_;rw[h.tY c a0 j ay];exact gy fun k _=>Rat.mul_comm _ _
  rfl
 rw[e,XO aa,lT aa fun k a2 di=>by rw[ajs _ aa a2 (fun x=>di x.symm) (by simp only[hQ,if_true];rw[dA di])];grind];rw[N8 (fun i c=>A c (t.B i)) i];rfl
theorem hy.Ah (h:hy m m N A t){r k:Nat}(aj:r<m)(a2:k<N):(t.ct r k).D m A=t.T r k*t.D m A:=by rw[<- h.yL aj (by omega:k<=N)];refine J9 fun i aa c a0=> ?_;simp only[b2.ct,hQ];split<;>rfl
end
def aQ {α:Type}(n:Nat)(f:Nat->α):List α:=(List.range n).map f
theorem c0 {α:Type}(n:Nat)(f:Nat->α):(aQ n f).length=n:=by simp[aQ]
theorem gd {α:Type}{n:Nat}{f:Nat->α}{i:Nat}(h:i<n):(aQ n f)[i]? = some (f i):=by simp[aQ,h]
theorem hK {α:Type}{n:Nat}{f:Nat->α}{i:Nat}(h:i<n):(aQ n f)[0+i]? = some (f i):=by rw[dG];exact gd h
theorem fa {α:Type}{n:Nat}{f g:Nat->α}(h:∀i,i<n->f i=g i):aQ n f=aQ n g :=
 ap8 fun i aa=>h i (List.mem_range.1 aa)
theorem lK {α:Type}(n:Nat)(f:Nat->α)(i:Nat)(v:α):(aQ n f).set i v=aQ n (fun k=>if k=i then v else f k):=by
 apply ap1;intro k;rw[apT];simp only[aQ,ap4,List.length_range,dK];by_cases h:i=k
 ·subst h
  by_cases c:i<n
  ·simp[c]
  simp[c]
 rw[dA h];by_cases c:k<n
 ·simp[c,Ne.symm h]
 simp[c]
theorem OL {α:Type}{n:Nat}{f:Nat->α}{x:α}:x∈aQ n f↔ ∃i,i<n/\f i=x:=by simp[aQ]
theorem XP {α β:Type}(n:Nat)(f:Nat->α)(g:α->β):(aQ n f).map g=aQ n (fun i=>g (f i)):=by simp[aQ]
theorem lg {α:Type}(n:Nat)(f:Nat->α):aQ (n+1) f=aQ n f++[f n]:=by simp[aQ,List.range_succ]
theorem fE {n:Nat}(h:n<1000000):R ((n:Int)+1)=((n+1:Nat):Int):=by rw[cG (by omega) (by omega)];omega
theorem d9 {α:Type}{p:Prop}[Decidable p] {x r:Option α} (k:x=r) (h:p:=by first|omega|(simp only;omega)|(rw[c0];omega)|(rw[c0,dy];omega)|(rw[c0];simp only;omega)|(simp only;rw[c0];omega)):(if p then x else none)=r:=cz h k
theorem fh {α:Type}{p:Prop}[Decidable p] {x y r:α} (k:x=r) (h:p:=by first|omega|(simp only;omega)):(if decide p=true then x else y)=r:=mh h k
theorem fs {α:Type}{p:Prop}[Decidable p] {x y r:α} (k:y=r) (h : ¬p:=by first|omega|(simp only;omega)|(simp;done)):(if decide p=true then x else y)=r:=l4 h k
def lQ (x:Int):Int:=if x<0 then -1 else 1
def mi (m n:Nat)(a:Nat->Nat->Int)(b:Nat->Int)(i j:Nat):Int :=
 if j<n then lQ (b i)*a i j else if j=n+m then lQ (b i)*b i else if j=n+i then 1 else 0
def dn (m n:Nat)(a:Nat->Nat->Int)(b:Nat->Int)(i j:Nat):Rat:=(mi m n a b i j:Rat)
def kb (m n:Nat)(a:Nat->Nat->Int)(b:Nat->Int):b2:=⟨dn m n a b,fun i=>n+i⟩
def gP (m n j:Nat):Rat:=if n<=j/\j<n+m then -1 else 0
def rs (m n:Nat)(a:Nat->Nat->Int)(b:Nat->Int):Prop:= ∃x:Nat->Rat,(∀j,j<n->0<=x j)/\ ∀i,i<m->cy n (fun j=>(a i j:Rat)*x j)=(b i:Rat)
section
variable {m n:Nat} {a:Nat->Nat->Int} {b:Nat->Int}
theorem Yw (x:Int):((lQ x:Int):Rat)≠0:=by unfold lQ;split<;>simp<;>decide
theorem ajt (x:Int):0<=lQ x*x:=by unfold lQ;split<;>omega
theorem wK {i k:Nat}(a2:k<m):dn m n a b i (n+k)=if k=i then 1 else 0:=by
 unfold dn mi;rw[dA (by omega),dA (by omega)];by_cases c:k=i
 ·rw[dw c,dw (by omega)];rfl
 rw[dA c,dA (by omega)];rfl
theorem O1 {i j:Nat}(ay:j<n):dn m n a b i j=((lQ (b i):Int):Rat)*(a i j:Rat):=by unfold dn mi;rw[dw ay,aqa]
theorem KW {i:Nat}:dn m n a b i (n+m)=((lQ (b i):Int):Rat)*(b i:Rat):=by unfold dn mi;rw[dA (by omega),dw rfl,aqa]
theorem akc {i:Nat}:0<=dn m n a b i (n+m):=by unfold dn mi;rw[dA (by omega),dw rfl];have:=ajt (b i);exact Rat.intCast_nonneg.2 this
theorem XQ:hy m m (n+m) (dn m n a b) (kb m n a b) where
 tY:=fun c a0 j _=>by rw[lT a0 (f:=fun i=>dn m n a b c ((kb m n a b).B i)*(kb m n a b).T i j) (fun i aa di=>by show dn m n a b c (n+i)*_=0;rw[wK aa,dA di];grind)];show _=dn m n a b c (n+c)*dn m n a b c j;rw[wK a0,dw rfl];grind
 row:=⟨fun i c=>if i=c then 1 else 0,fun i aa j _=>by rw[lT aa (f:=fun c=>(if i=c then (1:Rat) else 0)*dn m n a b c j) (fun c _ di=>by rw[dA (Ne.symm di)];grind),dw rfl];show dn m n a b i j=_;grind⟩
 unit:=fun i _ k a2=>by
  show dn m n a b i (n+k)=_;rw[wK a2];by_cases c:k=i
  ·rw[dw c,dw c.symm]
  rw[dA c,dA (Ne.symm c)]
 jZ:=fun i aa=>by show n+i<n+m;omega
theorem WE:(kb m n a b).m8 m (n+m):=fun i aa=>akc
theorem ahp (j:Nat):(kb m n a b).cw m (gP m n) j=gP m n j+cy m (fun i=>dn m n a b i j):=by unfold b2.cw;rw[gy (g:=fun i=>(-1)*dn m n a b i j) (fun i aa=>by show gP m n (n+i)*dn m n a b i j=_;unfold gP;rw[dw (by omega)]),ki];grind
theorem Yx:(kb m n a b).D m (dn m n a b)=1:=by
 have key : ∀k,k<=m->j0 k (fun i c=>dn m n a b c (n+i))=1:=by
  intro k
  induction k with
  | zero=>intro _;rfl
  | succ k ih =>
   intro a2;rw[j0,lT (k:=k) (by omega) (fun i aa di=>by rw[wK (by omega),dA di];grind)];rw[wK (by omega),dw rfl,J9 (E7:=fun i c=>dn m n a b c (n+i)) (fun i aa c a0=>by simp only[skip];rw[dw aa]),ih (by omega)];unfold uU;rw[dw (by omega)];grind
 show j0 m _=1;rw[show (fun i c=>dn m n a b c ((kb m n a b).B i))=fun i c=>dn m n a b c (n+i) from rfl,key m (dD _)]
theorem Xf:(kb m n a b).D m (dn m n a b)≠0:=by rw[Yx];grind
variable {t:b2}
theorem JW (j:Nat):gP m n j<=0:=by unfold gP;split<;>grind
theorem afm (f:t.m8 m (n+m)):0<=t.cw m (gP m n) (n+m):=by
 unfold b2.cw;have h1:gP m n (n+m)=0:=by unfold gP;rw[dA (by omega)]
 have h2:0<=cy m (fun i=> -(gP m n (t.B i))*t.T i (n+m)):=wt fun i aa=>aqb (by have:= @JW m n (t.B i);grind) (f i aa);rw[gy (g:=fun i=>(-1)*(gP m n (t.B i)*t.T i (n+m))) (fun i _=>by grind),ki] at h2;grind
theorem Vy (ok:hy m m (n+m) (dn m n a b) t)(f:t.m8 m (n+m))(h:∀i,i<m->n<=t.B i->t.T i (n+m)=0):rs m n a b:=by
 refine⟨t.hH m (n+m),fun j _=>f.hH j,fun i aa=> ?_⟩;have bM:=ok.aka i aa;rw[NN,KW] at bM
 have cB:cy m (fun k=>dn m n a b i (n+k)*t.hH m (n+m) (n+k))=0:=oH fun k a2=>by
  have:t.hH m (n+m) (n+k)=0:=oH fun fA kH=>by
   split
   ·rename_i e;exact h fA kH (by omega)
   rfl
  rw[this];grind
 rw[cB,gy (g:=fun j=>((lQ (b i):Int):Rat)*((a i j:Rat)*t.hH m (n+m) j)) (fun j ay=>by rw[O1 ay];grind),ki] at bM;have:=Yw (b i);grind
theorem NQ (f:t.m8 m (n+m))(h:t.cw m (gP m n) (n+m)=0)(a3:∀i,i<m->t.B i<n+m): ∀i,i<m->n<=t.B i->t.T i (n+m)=0:=by
 unfold b2.cw at h;have h1:gP m n (n+m)=0:=by unfold gP;rw[dA (by omega)]
 have h2:cy m (fun i=> -(gP m n (t.B i))*t.T i (n+m))=0:=by rw[gy (g:=fun i=>(-1)*(gP m n (t.B i)*t.T i (n+m))) (fun i _=>by grind),ki];grind
 intro i aa aU;have J:=NC (n:=m) (fun i aa=>aqb (by have:= @JW m n (t.B i);grind) (f i aa)) h2 i aa;have ak:gP m n (t.B i) = -1:=by unfold gP;rw[dw ⟨aU,a3 i aa⟩]
 rw[ak] at J;grind
theorem V5 (ok:hy m m (n+m) (dn m n a b) t)(f:t.m8 m (n+m))(h:∀j,j<n->t.cw m (gP m n) j<=0)(bM:rs m n a b):t.cw m (gP m n) (n+m)=0:=by
 obtain⟨x,U,hA⟩:=bM;have cB : ∀c,c<m->cy (n+m) (fun j=>dn m n a b c j*(if j<n then x j else 0))=dn m n a b c (n+m):=fun c a0=>by rw[NN,oH (n:=m) (fun k a2=>by rw[dA (by omega)];grind),KW,<- hA c a0,<- ki];rw[gy (g:=fun j=>((lQ (b c):Int):Rat)*((a c j:Rat)*x j)) (fun j ay=>by rw[O1 ay,dw ay];grind)];grind
 have bh:=ok.value (gP m n) cB
 rw[oH (n:=n+m) (f:=fun j=>gP m n j*(if j<n then x j else 0)) (fun j ay=>by
  by_cases c:j<n
  ·unfold gP;rw[dA (by omega)];grind
  rw[dA c];grind)] at bh
 have h1:cy (n+m) (fun j=>(if j<n then x j else 0)*t.cw m (gP m n) j)<=cy (n+m) (fun _=>(0:Rat)):=aix fun j ay=>by
  by_cases c:j<n
  ·rw[dw c];have:=aqb (U j c) (show 0<= -(t.cw m (gP m n) j) by have:=h j c;grind);grind
  rw[dA c];grind
 rw[oH (n:=n+m) (f:=fun _=>(0:Rat)) fun _ _=>rfl] at h1;have h2:=afm (m:=m) (n:=n) f;have J:t.cw m (gP m n) (n+m) = - cy m (fun i=>gP m n (t.B i)*t.T i (n+m)):=by unfold b2.cw;have:gP m n (n+m)=0:=(by unfold gP;rw[dA (by omega)]);rw[this];grind
 grind
theorem Ve (ok:hy m m (n+m) (dn m n a b) t){s:Nat}(bM:s<n+m)(du:0<t.cw m (gP m n) s): ∃i,i<m/\0<t.T i s:=by
 apply Classical.byContradiction;intro di;have h1:cy m (fun i=>gP m n (t.B i)*t.T i s)>=0:=wt fun i aa=>by have h2 : ¬0<t.T i s:=fun c=>di ⟨i,aa,c⟩;have:=aqb (show 0<= -(gP m n (t.B i)) by have:= @JW m n (t.B i);grind) (show 0<= -(t.T i s) by grind);grind
 unfold b2.cw at du;have:= @JW m n s;grind
end
def vT (m n:Nat)(a:Nat->Nat->Int)(b:Nat->Int)(x:Nat->Rat):Prop:=(∀j,j<n->0<=x j)/\ ∀i,i<m->cy n (fun j=>(a i j:Rat)*x j)=(b i:Rat)
def val (n:Nat)(o x:Nat->Rat):Rat:=cy n (fun j=>o j*x j)
def il (c:Nat->Rat)(l j:Nat):Rat:=match l with
 | 0=>c j
 | l+1=>if j=l then -1 else 0
def vx (m n:Nat)(a:Nat->Nat->Int)(b:Nat->Int)(c x:Nat->Rat):Prop :=
 vT m n a b x/\ ∀y,vT m n a b y-> ¬jb (n+1) (fun l=>val n (il c l) y-val n (il c l) x)
def Bounded (m n:Nat)(a:Nat->Nat->Int)(b:Nat->Int)(c:Nat->Rat):Prop:= ∃V,∀y,vT m n a b y->val n c y<=V
section
variable {m n:Nat} {a:Nat->Nat->Int} {b:Nat->Int} {c:Nat->Rat}
theorem aiF {x:Nat->Rat}{j:Nat}(ay:j<n):val n (il c (j+1)) x = - x j:=by unfold val;rw[lT ay (f:=fun i=>il c (j+1) i*x i) (fun i aa di=>by simp only[il];rw[dA di];grind)];simp only[il,if_true];grind
theorem vx.unique {x y:Nat->Rat}(U:vx m n a b c x)(aV:vx m n a b c y):(∀j,j<n->x j=y j)/\val n c x=val n c y:=by
 rcases J8 (n+1) (fun l=>val n (il c l) y-val n (il c l) x) with h|h|h
 ·exact(U.2 y aV.1 h).elim
 ·refine⟨fun j ay=> ?_,?_⟩
  ·have:=h (j+1) (by omega);simp only[aiF ay] at this;grind
  have:=h 0 (by omega);simp only at this;have e:il c 0=c:=rfl;rw[e] at this;grind
 exact(aV.2 x U.1 (h.congr fun l _=>by grind)).elim
theorem vx.Ln {x y:Nat->Rat}(U:vx m n a b c x)(aV:vT m n a b y):val n c y<=val n c x:=by apply Classical.byContradiction;intro h;refine U.2 y aV ⟨0,by omega,?_,fun l aR=>by omega⟩;have e:il c 0=c:=rfl;simp only[e];grind
structure LT (m n:Nat) (a:Nat->Nat->Int) (b:Nat->Int) (aH N:Nat) (u:b2):Prop where
 eqv : ∀x:Nat->Rat,(∀i,i<m->cy n (fun j=>(a i j:Rat)*x j)=(b i:Rat))↔ ∀i,i<aH->cy n (fun j=>u.T i j*x j)=u.T i N
 unit : ∀i,i<aH-> ∀k,k<aH->u.T i (u.B k)=if i=k then 1 else 0
 jZ : ∀i,i<aH->u.B i<n
 l5:u.m8 aH N
 QY:n<=N
variable {aH N:Nat} {u:b2}
theorem LT.G0 (h:LT m n a b aH N u)(f:Nat->Rat):cy n (fun j=>f j*u.hH aH N j)=cy aH (fun i=>f (u.B i)*u.T i N):=by unfold b2.hH;rw[gy (g:=fun j=>cy aH (fun i=>if u.B i=j then f (u.B i)*u.T i N else 0)) (fun j _=>by rw[<- ki];exact gy fun i _=>by split<;>grind),rU];exact gy fun i aa=>by rw[lT (h.jZ i aa) (f:=fun j=>if u.B i=j then f (u.B i)*u.T i N else 0) (fun j _ di=>dA fun x=>di x.symm),dw rfl]
theorem LT.hH (h:LT m n a b aH N u):vT m n a b (u.hH aH N):=by refine⟨fun j _=>h.l5.hH j,(h.eqv _).2 fun i aa=> ?_⟩;rw[h.G0,lT aa (f:=fun k=>u.T i (u.B k)*u.T k N) (fun k a2 di=>by rw[h.unit i aa k a2,dA (fun e=>di e.symm)];grind),h.unit i aa i aa,dw rfl];grind
theorem LT.Ov (h:LT m n a b aH N u)(o:Nat->Rat){x:Nat->Rat}(U:vT m n a b x):cy n (fun j=>u.cw aH o j*x j)=val n o x-val n o (u.hH aH N):=by have aj:=(h.eqv x).1 U.2;unfold val b2.cw;rw[h.G0 o,gy (g:=fun j=>o j*x j-cy aH (fun i=>o (u.B i)*(u.T i j*x j))) (fun j _=>by rw[gy (f:=fun i=>o (u.B i)*(u.T i j*x j)) (g:=fun i=>x j*(o (u.B i)*u.T i j)) (fun i _=>by grind),ki];grind),us,rU];congr 1;exact gy fun i aa=>by rw[ki,aj i aa]
theorem LT.zx (h:LT m n a b aH N u)(o:Nat->Rat){i:Nat}(aa:i<aH):u.cw aH o (u.B i)=0:=by unfold b2.cw;rw[lT aa (f:=fun k=>o (u.B k)*u.T k (u.B i)) (fun k a2 di=>by rw[h.unit k a2 i aa,dA di];grind),h.unit i aa i aa,dw rfl];grind
theorem LT.lD (h:LT m n a b aH N u)(du:∀j,j<n-> ¬u.rO aH (n+1) (il c) j):vx m n a b c (u.hH aH N):=by
 refine⟨h.hH,fun y aV aR=> ?_⟩;have Ik:jb (n+1) (fun l=>cy n (fun j=>u.cw aH (il c l) j*y j)):=aR.congr fun l _=>(h.Ov (il c l) aV).symm;obtain⟨j,ay,ah⟩:=jb.OY (v:=fun j l=>u.cw aH (il c l) j*y j) Ik;rcases(ah.congr (gV:=fun l=>y j*u.cw aH (il c l) j) fun l _=>Rat.mul_comm _ _).Yv with ⟨-,h2⟩|⟨h2,-⟩
 ·exact du j ay h2
 have:=aV.1 j ay;grind
theorem LT.LQ (h:LT m n a b aH N u)(o:Nat->Rat){s:Nat}(bM:s<n)(du:0<u.cw aH o s)(iE:∀i,i<aH-> ¬0<u.T i s): ¬Bounded m n a b o:=by
 rintro⟨V,hV⟩;have bD : ∀f:Nat->Rat,cy n (fun j=>f j*u.dir aH s j)=f s-cy aH (fun i=>f (u.B i)*u.T i s):=fun f=>by unfold b2.dir;rw[gy (g:=fun j=>(if j=s then f s else 0)-cy aH (fun i=>if u.B i=j then f (u.B i)*u.T i s else 0)) (fun j _=>by have e:cy aH (fun i=>if u.B i=j then f (u.B i)*u.T i s else 0)=f j*cy aH (fun i=>if u.B i=j then u.T i s else 0):=(by rw[<- ki];exact gy fun i _=>by split<;>grind);rw[e];split<;>grind),us,lT bM (f:=fun j=>if j=s then f s else 0) (fun i _ di=>dA di),dw rfl,rU];congr 1;exact gy fun i aa=>by rw[lT (h.jZ i aa) (f:=fun j=>if u.B i=j then f (u.B i)*u.T i s else 0) (fun j _ di=>dA fun x=>di x.symm),dw rfl]
 have pos : ∀j,0<=u.dir aH s j:=fun j=>by unfold b2.dir;have h1:0<=cy aH (fun i=> -(if u.B i=j then u.T i s else 0)):=wt fun i aa=>(by have:=iE i aa;split<;>grind);rw[gy (g:=fun i=>(-1)*(if u.B i=j then u.T i s else 0)) (fun i _=>by grind),ki] at h1;split<;>grind
 have LQ : ∀Bm:Rat,0<=Bm->vT m n a b (fun j=>u.hH aH N j+Bm*u.dir aH s j)/\val n o (fun j=>u.hH aH N j+Bm*u.dir aH s j)=val n o (u.hH aH N)+Bm*u.cw aH o s:=fun Bm QX=>by
  have ZZ : ∀f:Nat->Rat,cy n (fun j=>f j*(u.hH aH N j+Bm*u.dir aH s j))=cy n (fun j=>f j*u.hH aH N j)+Bm*(f s-cy aH (fun i=>f (u.B i)*u.T i s)):=fun f=>(by rw[<- bD f,<- ki,<- zC];exact gy fun j _=>by grind);refine⟨⟨fun j _=> ?_,(h.eqv _).2 fun i aa=> ?_⟩,ZZ o⟩
  ·have h1:=h.l5.hH (m:=aH) (N:=N) j;have h2:=aqb QX (pos j);grind
  rw[ZZ (u.T i),(h.eqv _).1 h.hH.2 i aa,lT aa (f:=fun k=>u.T i (u.B k)*u.T k s) (fun k a2 di=>by rw[h.unit i aa k a2,dA (fun e=>di e.symm)];grind),h.unit i aa i aa,dw rfl];grind
 have Z0:=hV _ h.hH;have di:u.cw aH o s≠0:=by grind
 obtain⟨r1,r2⟩:=LQ ((V-val n o (u.hH aH N)+1) / u.cw aH o s) (by rw[Rat.div_def];exact aqb (by grind) (Rat.le_of_lt (Rat.inv_pos.2 du)));have J:=hV _ r1;rw[r2] at J;have:(V-val n o (u.hH aH N)+1) / u.cw aH o s*u.cw aH o s=V-val n o (u.hH aH N)+1:=by grind
 grind
theorem LT.ct (h:LT m n a b aH N u){r k:Nat}(aj:r<aH)(a2:k<n)(ah:u.T r k≠0)(cq:(u.ct r k).m8 aH N):LT m n a b aH N (u.ct r k) where
 eqv:=fun x=>by
  rw[h.eqv x];have e1:cy n (fun j=>(u.ct r k).T r j*x j)=(1 / u.T r k)*cy n (fun j=>u.T r j*x j):=(by rw[<- ki];exact gy fun j _=>by simp only[b2.ct,if_true];grind);have e2 : ∀i,i≠r->cy n (fun j=>(u.ct r k).T i j*x j)=cy n (fun j=>u.T i j*x j)-(u.T i k / u.T r k)*cy n (fun j=>u.T r j*x j):=fun i aa=>(by rw[<- ki,<- us];exact gy fun j _=>by simp only[b2.ct,dA aa];grind);have n1:(u.ct r k).T r N=(1 / u.T r k)*u.T r N:=(by simp only[b2.ct,if_true];grind);have n2 : ∀i,i≠r->(u.ct r k).T i N=u.T i N-(u.T i k / u.T r k)*u.T r N:=fun i aa=>(by simp only[b2.ct,dA aa];grind);constructor
  ·intro U i aa
   by_cases c:i=r
   ·rw[c,e1,n1,U r aj]
   rw[e2 i c,n2 i c,U i aa,U r aj]
  intro U;have Z1:cy n (fun j=>u.T r j*x j)=u.T r N:=(by have:=U r aj;rw[e1,n1] at this;have h2:u.T r k*((1 / u.T r k)*cy n (fun j=>u.T r j*x j))=u.T r k*((1 / u.T r k)*u.T r N):=(by rw[this]);grind);intro i aa;by_cases c:i=r
  ·rw[c];exact Z1
  have:=U i aa;rw[e2 i c,n2 i c,Z1] at this;grind
 unit:=by
  intro i aa ea o9;simp only[b2.ct];by_cases e:i=r
  ·subst e
   simp only[if_true];by_cases fl:ea=i
   ·subst fl;simp only[if_true];grind
   simp only[dA fl];rw[h.unit i aa ea o9,dA (fun x=>fl x.symm)];grind
  simp only[dA e];by_cases fl:ea=r
  ·subst fl;simp only[if_true,dA e];grind
  simp only[dA fl];rw[h.unit i aa ea o9,h.unit r aj ea o9,dA (c:=r=ea) (fun x=>fl x.symm)];grind
 jZ:=fun i aa=>by
  simp only[b2.ct];split
  ·exact a2
  exact h.jZ i aa
 l5:=cq
 QY:=h.QY
theorem LT.tok (h:LT m n a b aH N u)(aU:n<=N)(hg:0<N):hy aH aH N u.T u where
 tY:=fun c a0 j _=>by rw[lT a0 (f:=fun i=>u.T c (u.B i)*u.T i j) (fun i aa di=>by rw[h.unit c a0 i aa,dA (fun e=>di e.symm)];grind),h.unit c a0 c a0,dw rfl];grind
 row:=⟨fun i c=>if i=c then 1 else 0,fun i aa j _=>by rw[lT aa (f:=fun c=>(if i=c then (1:Rat) else 0)*u.T c j) (fun c _ di=>by rw[dA (Ne.symm di)];grind),dw rfl];grind⟩
 unit:=h.unit
 jZ:=fun i aa=>Nat.lt_of_lt_of_le (h.jZ i aa) aU
def yh (n:Nat)(dp:Nat->Bool)(x:Nat->Rat):Prop:= ∀j,j<n->dp j=false->x j=0
structure rD (m n:Nat) (a:Nat->Nat->Int) (b:Nat->Int) (c:Nat->Rat) (l:Nat) (dp:Nat->Bool) (V:Nat->Rat):Prop where
 low : ∀y,vT m n a b y->yh n dp y-> ∀k,k<l->val n (il c k) y=V k
 up : ∀y,vT m n a b y-> ¬yh n dp y-> ∃k,k<l/\val n (il c k) y<V k/\ ∀q,q<k->val n (il c q) y=V q
theorem rD.zero {dp:Nat->Bool}(h:∀j,j<n->dp j=true)(V:Nat->Rat):rD m n a b c 0 dp V where
 low:=fun y _ _ k a2=>by omega
 up:=fun y _ cq=>(cq fun j ay e=>by rw[h j ay] at e;cases e).elim
theorem rD.next (h:LT m n a b aH N u){l:Nat}{dp mW:Nat->Bool}{V:Nat->Rat}(s:rD m n a b c l dp V)(du:∀j,j<n->dp j=true-> ¬0<u.cw aH (il c l) j)
 (mK : ∀j,j<n->mW j=(dp j && !decide (u.cw aH (il c l) j<0))) : ∃I0,rD m n a b c (l+1) mW I0:=by
 have sub : ∀y,yh n mW y->yh n dp y:=fun y aV j ay e=>aV j ay (by rw[mK j ay,e];rfl)
 have neg : ∀y,vT m n a b y->yh n dp y-> ∀j,j<n->0<= -(u.cw aH (il c l) j*y j):=fun y aV cq j ay=>by
  cases e:dp j with
  | false=>rw[cq j ay e];grind
  | true =>
   have:=aqb (show 0<= -(u.cw aH (il c l) j) by have:=du j ay e;grind) (aV.1 j ay);grind
 refine⟨fun k=>if k=l then val n (il c l) (u.hH aH N) else V k,fun y aV cq k a2=> ?_,fun y aV cq=> ?_⟩
 ·by_cases e:k=l
  ·rw[dw e,e]
   have cB:cy n (fun j=>u.cw aH (il c l) j*y j)=0:=oH fun j ay=>by
    cases e:mW j with
    | false=>rw[cq j ay e];grind
    | true =>
     rw[mK j ay,dN] at e;have h1:=du j ay e.1;have h2 : ¬u.cw aH (il c l) j<0:=(by simpa using e.2);have:u.cw aH (il c l) j=0:=(by grind);rw[this];grind
   rw[h.Ov _ aV] at cB;grind
  rw[dA e];exact s.low y aV (sub y cq) k (by omega)
 by_cases g:yh n dp y;rotate_left
 ·obtain⟨k,kN,j3,oU⟩:=s.up y aV g;exact⟨k,by omega,by rw[dA (by omega)];exact j3,fun q a1=>by rw[dA (by omega)];exact oU q a1⟩
 refine⟨l,by omega,?_,fun q a1=>by rw[dA (by omega)];exact s.low y aV g q a1⟩;rw[dw rfl];have h1:=h.Ov (il c l) aV;have h2:=neg y aV g;have J:=wt h2
 have ak:cy n (fun j=> -(u.cw aH (il c l) j*y j))≠0:=fun e=>cq fun j ay aaN=>by
  have:=NC h2 e j ay
  cases e1:dp j with
  | false=>exact g j ay e1
  | true =>
   rw[mK j ay,e1,Bool.true_and] at aaN;have ax:u.cw aH (il c l) j<0:=(by simpa using aaN);grind
 rw[gy (g:=fun j=>(-1)*(u.cw aH (il c l) j*y j)) (fun j _=>by grind),ki,h1] at J ak;grind
theorem rD.lD (h:LT m n a b aH N u){dp:Nat->Bool}{V:Nat->Rat}(s:rD m n a b c (n+1) dp V)(a3:∀i,i<aH->dp (u.B i)=true):vx m n a b c (u.hH aH N):=by
 have U:yh n dp (u.hH aH N):=fun j ay e=>b2.NH fun i aa e2=>by have:=a3 i aa;rw[e2,e] at this;cases this
 have bh:=s.low _ h.hH U;refine⟨h.hH,fun y aV ⟨l,ko,lq,yM⟩=> ?_⟩;by_cases g:yh n dp y
 ·have:=s.low y aV g l ko;have:=bh l ko;grind
 obtain⟨k,kN,j3,oU⟩:=s.up y aV g;rcases Nat.lt_trichotomy l k with e|e|e
 ·have:=oU l e;have:=bh l ko;grind
 ·subst e;have:=bh l ko;grind
 have:=yM k e;have:=bh k kN;grind
theorem LT.WG (h:LT m n a b aH N u){k s:Nat}(du:0<u.cw aH (il c (k+1)) s): ∃i,i<aH/\0<u.T i s:=by
 apply Classical.byContradiction;intro di;have h1:0<=cy aH (fun i=>il c (k+1) (u.B i)*u.T i s):=wt fun i aa=>by have h2 : ¬0<u.T i s:=fun e=>di ⟨i,aa,e⟩;simp only[il];split<;>grind
 unfold b2.cw at du;have J:il c (k+1) s<=0:=by simp only[il];split<;>grind
 grind
end
end Go.VL
namespace Go.Proofs.YthgbjflfgmahbaeGreat
set_option linter.unusedVariables false
set_option linter.unusedSimpArgs false
open Go Go.VL
structure cS where
 iS:ByteArray
 gx:Int
 gI:Int
 iA:Bool
 deriving DecidableEq
structure dg where
 dr:Int
 d4:Int
 h3:Int
 deriving DecidableEq
structure c6 where
 cv:(List cS)
 bN:(List dg)
 deriving DecidableEq
structure bC where
 cD:Bool
 bP:ar
 deriving DecidableEq
structure av where
 cJ:bC
 dl:ar
 deriving DecidableEq
structure kt where
 ha:Int
 fC:Int
 dr:ar
 d4:ar
 h7:ar
 deriving DecidableEq
structure xU where
 Pj:Int
 gx:(List av)
 O2:av
 deriving DecidableEq
structure vt where
 QZ:Int
 wW:(List (List av))
 vy:ar
 Hr:(List av)
 deriving DecidableEq
structure fP where
 ig:Int
 sJ:Int
 deriving DecidableEq
structure cF where
 tO:bC
 qG:ar
 deriving DecidableEq
structure wB where
 wW:(List (List bC))
 AN:bC
 vy:ar
 Pk:Int
 Pl:(List Bool)
 deriving DecidableEq
def b3 (x:cS):List aF:=[.s x.iS,.n .i64 x.gx,.n .i64 x.gI,.b x.iA]
theorem zy : ∀x,∀v∈b3 x,v.j7=true:=by intro x v bh;simp only[b3,dS,ap2,or_false] at bh;rcases bh with rfl|rfl|rfl|rfl<;>rfl
theorem zz : ∀x,∀v∈b3 x,bx v:=fun x=>(rV (.s _) (rV (.n _ _) (rV (.n _ _) (rV (.b _) GY))))
theorem mA : ∀x,∀v∈b3 x,Pure v:=by
 intro x v bh;simp only[b3,dS,ap2,or_false] at bh;rcases bh with rfl|rfl|rfl|rfl
 ·exact .s _
 ·exact .n _ _
 ·exact .n _ _
 exact .b _
def ca (x:dg):List aF:=[.n .i64 x.dr,.n .i64 x.d4,.n .i64 x.h3]
theorem zr : ∀x,∀v∈ca x,v.j7=true:=by intro x v bh;simp only[ca,dS,ap2,or_false] at bh;rcases bh with rfl|rfl|rfl<;>rfl
theorem zs : ∀x,∀v∈ca x,bx v:=fun x=>(rV (.n _ _) (rV (.n _ _) (rV (.n _ _) GY)))
theorem mz : ∀x,∀v∈ca x,Pure v:=by
 intro x v bh;simp only[ca,dS,ap2,or_false] at bh;rcases bh with rfl|rfl|rfl
 ·exact .n _ _
 ·exact .n _ _
 exact .n _ _
def hE (x:c6):List aF:=[.isl 4 (x.cv.map b3),.isl 3 (x.bN.map ca)]
theorem CZ : ∀x,∀v∈hE x,Pure v:=by
 intro x v bh;simp only[hE,dS,ap2,or_false] at bh;rcases bh with rfl|rfl
 ·exact .isl (df mA _)
 exact .isl (df mz _)
def bo (x:bC):List aF:=[.b x.cD,.isl 1 (x.bP.map eI)]
theorem ft : ∀x,∀v∈bo x,v.j7=true:=by intro x v bh;simp only[bo,dS,ap2,or_false] at bh;rcases bh with rfl|rfl<;>rfl
theorem wm : ∀x,∀v∈bo x,Pure v:=by
 intro x v bh;simp only[bo,dS,ap2,or_false] at bh;rcases bh with rfl|rfl
 ·exact .b _
 exact .isl (df aw _)
def aE (x:av):List aF:=[.b x.cJ.cD,.isl 1 (x.cJ.bP.map eI),.isl 1 (x.dl.map eI)]
theorem iQ : ∀x,∀v∈aE x,v.j7=true:=by intro x v bh;simp only[aE,dS,ap2,or_false] at bh;rcases bh with rfl|rfl|rfl<;>rfl
theorem d5 : ∀x,∀v∈aE x,Pure v:=by
 intro x v bh;simp only[aE,dS,ap2,or_false] at bh;rcases bh with rfl|rfl|rfl
 ·exact .b _
 ·exact .isl (df aw _)
 exact .isl (df aw _)
def vp (x:kt):List aF:=[.n .i64 x.ha,.n .i64 x.fC,.isl 1 (x.dr.map eI),.isl 1 (x.d4.map eI),.isl 1 (x.h7.map eI)]
def DL (x:xU):List aF:=[.n .i64 x.Pj,.isl 3 (x.gx.map aE),.b x.O2.cJ.cD,.isl 1 (x.O2.cJ.bP.map eI),.isl 1 (x.O2.dl.map eI)]
def zD (x:vt):List aF:=[.n .i64 x.QZ,.isl 1 (x.wW.map (fy 3 aE)),.isl 1 (x.vy.map eI),.isl 3 (x.Hr.map aE)]
theorem Nu : ∀x,∀v∈zD x,Pure v:=by
 intro x v bh;simp only[zD,dS,ap2,or_false] at bh;rcases bh with rfl|rfl|rfl|rfl
 ·exact .n _ _
 ·exact .isl (df (pU (sz:=3) d5) _)
 ·exact .isl (df aw _)
 exact .isl (df d5 _)
def gC (x:fP):List aF:=[.n .i64 x.ig,.n .i64 x.sJ]
theorem zi : ∀x,∀v∈gC x,Pure v:=by
 intro x v bh;simp only[gC,dS,ap2,or_false] at bh;rcases bh with rfl|rfl
 ·exact .n _ _
 exact .n _ _
def bU (x:cF):List aF:=[.b x.tO.cD,.isl 1 (x.tO.bP.map eI),.isl 1 (x.qG.map eI)]
theorem lI : ∀x,∀v∈bU x,Pure v:=by
 intro x v bh;simp only[bU,dS,ap2,or_false] at bh;rcases bh with rfl|rfl|rfl
 ·exact .b _
 ·exact .isl (df aw _)
 exact .isl (df aw _)
def DB (x:wB):List aF:=[.isl 1 (x.wW.map (fy 2 bo)),.b x.AN.cD,.isl 1 (x.AN.bP.map eI),.isl 1 (x.vy.map eI),.n .i64 x.Pk,.isl 1 (x.Pl.map gA)]
theorem Nc : ∀x,∀v∈DB x,Pure v:=by
 intro x v bh;simp only[DB,dS,ap2,or_false] at bh;rcases bh with rfl|rfl|rfl|rfl|rfl|rfl
 ·exact .isl (df (pU (sz:=2) wm) _)
 ·exact .b _
 ·exact .isl (df aw _)
 ·exact .isl (df aw _)
 ·exact .n _ _
 exact .isl (df fq _)
structure hx where
 cD:Bool
 bP:bB
structure en where
 cJ:hx
 dl:bB
def cP (c8 c:Nat)(x:en):List aF:=[.b x.cJ.cD,ji c8 c 1 x.cJ.bP,ji c8 c 1 x.dl]
theorem n0 {b1:Nat->Option Nat}{c8 nx c:Nat}(cl:b1 c8=some nx)(x:en):(cP c8 c x).map (pb b1)=cP nx c x:=by simp only[cP,List.map_cons,List.map_nil,Pf cl];rfl
theorem Ka (c8 c:Nat): ∀x,∀v∈cP c8 c x,bx v:=fun x=>(rV (.b _) (rV (La _ _ _ _) (rV (La _ _ _ _) GY)))
def kQ (P:List ar)(x:en):av:=⟨⟨x.cJ.cD,iM P x.cJ.bP⟩,iM P x.dl⟩
def vv (P:List ar)(x:en):Bool:=qR P x.cJ.bP && qR P x.dl
theorem DW {cL:hr}{P:List ar}{raw:List aS}{c8 c:Nat}{nN:List aS}{bJ:hr->Bool}(e:raw=P.map (li cL 1 eI))(a0:nN.length=c)(a2:cL≠ .gone)(bF:bJ cL=true){x:en}(h:vv P x=true):yr c8 (nN++raw) bJ (cP c8 c x) (aE (kQ P x)):=by simp only[vv,dN] at h;obtain⟨h0,h1⟩:=h;exact⟨Yn rfl,Lb e aw a0 a2 bF h0,Lb e aw a0 a2 bF h1,trivial⟩
noncomputable abbrev bk:Program:=Go.Proofs.Tryz.prog
theorem sQ:bk.follows .mixedOrders=true:=Go.Proofs.Tryz.checked.mixed
theorem a6 {N m:Nat}{c:Code}{E:List (Nat×aF)}{rows:List (List aS)}(tape:List bE){e:Exit}{s:S}{ao:List Prop}(bt:cn ao)
 (h:LM bk N m c tape (dj E rows) rows.length=some (e,s,ao):=by kernel_rfl):k9 bk N m c e (dj E rows) s:=Wz sQ h bt (zL _ _)
theorem bd {f:FuncId}{args:List aF}{r:aF}{ao:List Prop}(tape:List bE)(bt:cn ao)(f9:ni:=ii)
 (h:HO bk f args [] tape [] [] f9=some (r,[],ao):=by kernel_rfl):Con bk f args [] r []:=ahn sQ h bt
theorem hO {f:FuncId}{args:List aF}{T iF:List (List aS)}{r:aF}{ao:List Prop}(tape:List bE)(a4:List Nat)(c9:List j2)(bt:cn ao)(f9:ni:=ii)
 (h:HO bk f args T tape a4 c9 f9=some (r,iF,ao):=by kernel_rfl):Con bk f args T r iF:=W9 sQ h bt
def XR (x:cS):Prop:=(fun s=>s.size<=maxLen) x.iS/\nR x.gx/\nR x.gI/\(fun _=>True) x.iA
theorem aeF (w:World):r3 Go.Proofs.Tryz.prog w 61 b3 XR where
 pure:=mA
 size:=fun a=>by kernel_rfl
 opens:=fun h=>by obtain⟨aR,cq⟩:=NG Tryz.underlying61 h;obtain⟨lp,i0,bV⟩:=wE cq 0 0 1 rfl rfl (by kernel_rfl) (afL Tryz.underlying9 (by kernel_rfl));obtain⟨gh,i1,bf⟩:=wE cq 1 1 1 rfl rfl (by kernel_rfl) (zB Tryz.underlying3 (by kernel_rfl));obtain⟨gi,i2,cx⟩:=wE cq 2 2 1 rfl rfl (by kernel_rfl) (zB Tryz.underlying3 (by kernel_rfl));obtain⟨bm,Q0,kO⟩:=wE cq 3 3 1 rfl rfl (by kernel_rfl) (agG Tryz.underlying4 (by kernel_rfl));have aU:Go.Proofs.Tryz.prog.cellsOf 61=4:=(by kernel_rfl);exact⟨⟨lp,gh,gi,bm⟩,⟨i0,i1,i2,Q0⟩,(mj.aB bV (mj.aB bf (mj.aB cx (mj.aB kO (mj.end_ (by omega)) (by rfl)) (by rfl)) (by rfl)) (by rfl))⟩
def Xg (x:dg):Prop:=nR x.dr/\nR x.d4/\nR x.h3
theorem ad8 (w:World):r3 Go.Proofs.Tryz.prog w 76 ca Xg where
 pure:=mz
 size:=fun a=>by kernel_rfl
 opens:=fun h=>by obtain⟨aR,cq⟩:=NG Tryz.underlying76 h;obtain⟨lp,i0,bV⟩:=wE cq 0 0 1 rfl rfl (by kernel_rfl) (zB Tryz.underlying3 (by kernel_rfl));obtain⟨gh,i1,bf⟩:=wE cq 1 1 1 rfl rfl (by kernel_rfl) (zB Tryz.underlying3 (by kernel_rfl));obtain⟨gi,i2,cx⟩:=wE cq 2 2 1 rfl rfl (by kernel_rfl) (zB Tryz.underlying3 (by kernel_rfl));have aU:Go.Proofs.Tryz.prog.cellsOf 76=3:=(by kernel_rfl);exact⟨⟨lp,gh,gi⟩,⟨i0,i1,i2⟩,(mj.aB bV (mj.aB bf (mj.aB cx (mj.end_ (by omega)) (by rfl)) (by rfl)) (by rfl))⟩
def qv (x:c6):Prop:=(fun l=>l.length<=maxLen/\ ∀x∈l,XR x) x.cv/\(fun l=>l.length<=maxLen/\ ∀x∈l,Xg x) x.bN
theorem adx (w:World):r3 Go.Proofs.Tryz.prog w 25 hE qv where
 pure:=CZ
 size:=fun a=>by kernel_rfl
 opens:=fun h=>by obtain⟨aR,cq⟩:=NG Tryz.underlying25 h;obtain⟨lp,i0,bV⟩:=wE cq 0 0 1 rfl rfl (by kernel_rfl) (JV (sz:=4) Tryz.underlying22 (by kernel_rfl) (by kernel_rfl) (by decide) (aeF _));obtain⟨gh,i1,bf⟩:=wE cq 1 1 1 rfl rfl (by kernel_rfl) (JV (sz:=3) Tryz.underlying23 (by kernel_rfl) (by kernel_rfl) (by decide) (ad8 _));have aU:Go.Proofs.Tryz.prog.cellsOf 25=2:=(by kernel_rfl);exact⟨⟨lp,gh⟩,⟨i0,i1⟩,(mj.aB bV (mj.aB bf (mj.end_ (by omega)) (by rfl)) (by rfl))⟩
def LR (lp gh:Int)(gi bm er gZ:Nat)(nE:ar)(lf iG ec AO:Nat):List aF:=[.n .i64 lp,.n .i64 gh,.br gi bm er gZ,.isl 1 (nE.map eI),.br lf iG ec AO]
def Qh (lp gh gi bm er gZ nE lf:Nat)(iG:Int):List aF:=[.br lp gh gi bm,.br er gZ nE lf,.n .i64 iG]
def tZ (lp:Int)(gh gi bm er gZ nE lf iG ec AO mX qS:Nat):List aF:=[.n .i64 lp,.br gh gi bm er,.br gZ nE lf iG,.br ec AO mX qS]
def LS (lp:Int)(gh gi bm er:Nat)(gZ:Bool)(nE lf:ar):List aF:=[.n .i64 lp,.br gh gi bm er,.b gZ,.isl 1 (nE.map eI),.isl 1 (lf.map eI)]
def rE (lp gh:Int)(gi bm er gZ nE lf iG ec AO mX qS xf:Nat):List aF:=[.n .i64 lp,.n .i64 gh,.br gi bm er gZ,.br nE lf iG ec,.br AO mX qS xf]
def amm (lp gh gi bm:Nat)(er:ar)(gZ:Int):List aF:=[.br lp gh gi bm,.isl 1 (er.map eI),.n .i64 gZ]
def km (lp gh gi bm:Nat)(er:Bool)(gZ:ar)(nE lf iG ec:Nat)(AO:Int)(mX qS xf amn:Nat):List aF:=[.br lp gh gi bm,.b er,.isl 1 (gZ.map eI),.br nE lf iG ec,.n .i64 AO,.br mX qS xf amn]
def Qi (lp:Bool)(gh:ar)(gi bm er gZ:Nat):List aF:=[.b lp,.isl 1 (gh.map eI),.br gi bm er gZ]
def Qj (lp:Bool)(gh gi bm er:Nat)(gZ:ar):List aF:=[.b lp,.br gh gi bm er,.isl 1 (gZ.map eI)]
def Qk (lp:Bool)(gh gi bm er gZ nE lf iG:Nat):List aF:=[.b lp,.br gh gi bm er,.br gZ nE lf iG]
def fu (r:Nat)(a:Int)(c:List bB)(d:ar)(e:List av)(p:List (List av)):List aS:=aS.mk 4 [[.n .i64 a,.br r 1 0 c.length,.br r 2 0 d.length,.br r 3 0 e.length]] .live::aS.mk 1 (c.map (bR r 4 3)) .live::aS.mk 1 (d.map eI) .live::aS.mk 3 (e.map aE) .live::cU 3 aE p
theorem ib (M:Nat->Option Nat)(r s:Nat)(a:Int)(c:List bB)(d:ar)(e:List av)(p:List (List av))(h:M s=some r)(k:aS.mk 4 [[.n .i64 a,.br r 1 0 c.length,.br r 2 0 d.length,.br r 3 0 e.length]] .live=k6 M (aS.mk 4 [[.n .i64 a,.br s 1 0 c.length,.br s 2 0 d.length,.br s 3 0 e.length]] .live)):fu r a c d e p=(fu s a c d e p).map (k6 M):=fQ k (fQ (yG M r s 4 3 h c) (fQ (ld M 1 kC d) (fQ (ld M 3 iQ e) (eg M 3 iQ p))))
theorem t0 (r:Nat)(a:Int)(c:List bB)(d:ar)(e:List av)(p:List (List av)):mE (fu r a c d e p):=ls rfl (ls rfl (ls rfl (ls rfl (wA (QU .live 3 aE p)))))
def kc (i j k:Nat)(a b:Int)(c d e:ar):List aS:=[aS.mk 5 [[.n .i64 a,.n .i64 b,.br i 0 0 c.length,.br j 0 0 d.length,.br k 0 0 e.length]] .live]
def kU (i j k:Nat)(c:List bB)(a:Bool)(b d:ar)(e:Int)(f:List Bool):List aS:=[aS.mk 6 [[.br i 0 0 c.length,.b a,.isl 1 (b.map eI),.br j 0 0 d.length,.n .i64 e,.br k 0 0 f.length]] .live]
def w5 (i j k:Nat)(a:Int)(c:List bB)(d:ar)(e:List av):List aS:=[aS.mk 4 [[.n .i64 a,.br i 0 0 c.length,.br j 0 0 d.length,.br k 0 0 e.length]] .live]
def sc (a b:Int)(c d e:ar):List aS:=[aS.mk 5 [[.n .i64 a,.n .i64 b,.isl 1 (c.map eI),.isl 1 (d.map eI),.isl 1 (e.map eI)]] .live]
abbrev Il:bC:=⟨false,[]⟩
def rF (c:List bB)(a:Bool)(b d:ar)(e:Int)(f:List Bool)(g:List (List bC)):List (List aS):=[kU 1 3 4 c a b d e f,au 1 (bR 2 0 2) c,cU 2 bo g,au 1 eI d,au 1 gA f]
def qH (c:List bB)(a:Bool)(b d:ar)(e:Int)(f:List Bool)(g:List (List bC))(z:List aS):List (List aS):=[kU 1 3 4 c a b d e f,au 1 (bR 2 0 2) c,cU 2 bo g,au 1 eI d,au 1 gA f,z]
def yv (a b:Int)(c d e:ar)(f:Int)(g:List bB)(h:ar)(i j:List av)(k:List (List av)):List (List aS):=[sc a b c d e,w5 3 5 6 f g h i,au 3 aE j,au 1 (bR 4 0 3) g,cU 3 aE k,au 1 eI h,au 3 aE i]
def vU:List aS:=[aS.mk 5 [[.n .i64 0,.n .i64 0,.fg,.fg,.fg]] .live]
def ua (a b:Int)(c d e:ar):List (List aS):=[kc 1 2 3 a b c d e,au 1 eI c,au 1 eI d,au 1 eI e]
def qT (c:List bB)(g:List (List bC)):List j2:=[.box kJ,.bq (au 1 (bR 2 0 2) c),.bq (cU 2 bo g),.pure,.pure,.pure]
def sW (c:List bB)(g:List (List bC)):List j2:=[.box kJ,.bq (au 1 (bR 2 0 2) c),.bq (cU 2 bo g),.pure,.pure]
def xg (a:List cS)(b:List dg):List aS:=[aS.mk 2 [[.isl 4 (a.map b3),.isl 3 (b.map ca)]] .live]
def yw (n:Nat)(a:List cS)(b:List dg):Nat×aF:=(n,.fX 2 [[.isl 4 (a.map b3),.isl 3 (b.map ca)]] 0 0)
theorem l0 {x:Option cF}{y:cF}(h:x=some y):k4 (hl 3 bU x) (.f8 3 (some (bU y))):=ame h
def hC (n:Nat)(x:bC):fY:=hs n (.agg (bo x)) false
def jC (n:Nat)(x:av):fY:=hs n (.agg (aE x)) false
def EQ (a:List cS)(b:List dg):A7:={a4:=[],c9:=[],ac:=[ii],r:= .agg [.br 0 0 0 a.length,.br 0 1 0 b.length],eP:=[[aS.mk 4 (a.map b3) .live,aS.mk 3 (b.map ca) .live]],f9:= .bf (.agg [.id,.id]),gT:=[.bq [aS.mk 4 (a.map b3) .live,aS.mk 3 (b.map ca) .live]],ex:=[],ef:=true}
abbrev aqc:=List av
abbrev aqd:=Option cF
abbrev aqe:=List bE
abbrev aqf:=List bC
abbrev aqg:=List aqf
abbrev aqh:=List bB
abbrev aqi:=List aqc
abbrev aqj:=List Bool
abbrev aqk:=List aqd
abbrev aql:=List ar
abbrev aqm:=List cS
abbrev aqn:=List dg
abbrev aqo:=Option Bool
abbrev aqp:=List en
abbrev aqq:=Option Int
abbrev aqr:=List fP
abbrev aqs:=Option ar
abbrev aqt:=Option aqd
abbrev aqu:=Option bC
abbrev aqv:=Option av
end Go.Proofs.YthgbjflfgmahbaeGreat
