/- Lemmas, plain functions of the program, and what they answer. No condition. -/
import Derived.Carry
import Derived.ChangeOld
import Derived.ChangeSlices
import Derived.LoopN
import Derived.OwnWalk
import Derived.Scope
import Derived.Test.YtmmbmjbpfklkcaaGreatChecked
import Derived.Test.YtmmbmjbpfklkcaaGreatMA
namespace Go.VL
set_option linter.unusedVariables false
set_option linter.unusedSimpArgs false
open Go
theorem oL {α β:Type} {f hT:α→β→Option (β×List Prop)} (bQ : ∀a b z,hT a b=some z→f a b=some z) : ∀ {l:List α} {m:List β} {z:List β×List Prop},iM hT l m=some z→iM f l m=some z
 | [],[],z,h=>h
 | [],_::_,z,h=>by simp [iM] at h
 | _::_,[],z,h=>by simp [iM] at h
 | a::l,b::m,z,h=>by
  simp only [iM] at h ⊢
  split at h
  ·rename_i hE bt dQ aO h1 h2
   rw [bQ _ _ _ h1,oL bQ h2];exact h
  ·simp at h
section
variable {aL fX:Nat→Option (List ab)} (cv : ∀r row,fX r=some row→aL r=some row)
include cv
theorem vc {r k:Nat} {R:ab} (h:ca (fX r) k=some R):ca (aL r) k=some R:=by
 cases ao:fX r with
 | none=>rw [ao] at h;simp [ca] at h
 | some row=>rw [cv r row ao];rw [ao] at h;exact h
theorem Pw {r k:Nat} {ck:eS} {z:ab×List Prop} (h:lA (fX r) k ck=some z):lA (aL r) k ck=some z:=by
 cases ao:fX r with
 | none=>rw [ao] at h;unfold lA at h;split at h<;>simp [ca] at h
 | some row=>rw [cv r row ao];rw [ao] at h;exact h
theorem sF {aW:Nat→Option Nat} {aB:e8} {bs:eI→Bool} {c:oq} {x:ax} {z:ax×List Prop} (h:iL fX aW aB bs c x=some z):iL aL aW aB bs c x=some z:=by
 cases c with
 | id =>
  simp only [iL] at h ⊢
  exact h
 | eO sz=>cases x<;>exact h
 | cm=>exact h
 | dr y=>exact h
 | mL sz=>exact h
 | len n=>cases x<;>exact h
 | at_ j i n=>cases x<;>exact h
 | view b4 R es =>
  cases x<;>simp only [iL,reduceCtorEq] at h ⊢
  split at h
  ·rename_i row fh h1 h2
   rw [cv _ _ h1,cv _ _ h2];exact h
  ·simp at h
 | cL es =>
  cases x<;>simp only [iL,reduceCtorEq] at h ⊢
  split at h
  ·rename_i R al
   rw [vc cv al];exact h
  ·simp at h
theorem CU {aW:Nat→Option Nat} {aB:e8} {bs:eI→Bool} {c:tL} {x:ax} {z:ax×List Prop} (h:kE fX aW aB bs c x=some z):kE aL aW aB bs c x=some z:=by
 cases c with
 | bX c =>
  simp only [kE] at h ⊢
  split at h
  ·rename_i bf
   rw [if_pos bf]
   split at h
   ·exact h
   ·exact h
   ·exact h
   ·exact sF cv h
  ·rename_i bf;rw [if_neg bf];exact sF cv h
 | agg l =>
  cases x<;>simp only [kE,reduceCtorEq] at h ⊢
  split at h
  ·rename_i cK aq a8
   rw [oL (fun a b z h=>sF cv h) a8];exact h
  ·simp at h
 | ptr l =>
  cases x<;>simp only [kE,reduceCtorEq] at h ⊢
  split at h
  ·rename_i R al
   rw [vc cv al]
   simp only
   split at h
   ·rename_i c fW
    split at h
    ·rename_i a8
     rw [if_pos a8]
     split at h
     ·rename_i cK aq gF
      rw [oL (fun a b z h=>sF cv h) gF];exact h
     ·simp at h
    ·simp at h
   ·simp at h
  ·simp at h
 | oZ l =>
  simp only [kE] at h ⊢
  split at h
  ·split at h
   ·rename_i R al
    rw [vc cv al]
    simp only
    split at h
    ·rename_i c fW
     split at h
     ·rename_i a8
      rw [if_pos a8]
      split at h
      ·rename_i cK aq gF
       rw [oL (fun a b z h=>sF cv h) gF];exact h
      ·simp at h
     ·simp at h
    ·simp at h
   ·simp at h
  ·simp at h
theorem Hb {aW:Nat→Option Nat} {aB:e8} {bs:eI→Bool} {c:iH} {x:ax} {z:ax×List Prop} (h:kj fX aW aB bs c x=some z):kj aL aW aB bs c x=some z:=by
 cases c with
 | bo c =>
  simp only [kj] at h ⊢
  split at h
  ·rename_i bf
   rw [if_pos bf]
   split at h
   ·exact h
   ·exact CU cv h
  ·rename_i bf;rw [if_neg bf];exact CU cv h
 | comp l =>
  cases x<;>simp only [kj,reduceCtorEq] at h ⊢
  all_goals
   split at h
   ·rename_i cK aq a8
    rw [oL (fun a b z h=>CU cv h) a8];exact h
   ·simp at h
theorem Hc {aW:Nat→Option Nat} {aB:e8} {bs:eI→Bool} {c:gj} {row:List ab} {z:List ab×List Prop} (h:gB fX aW aB bs c row=some z):gB aL aW aB bs c row=some z:=by
 cases c with
 | pure=>exact h
 | dr cD=>exact h
 | dO cW=>exact h
 | rx cW=>cases row with
  | nil=>simp [gB] at h
  | cons R l=>cases l<;>simp [gB] at h
 | drop=>cases row with
  | nil=>simp [gB] at h
  | cons R l=>cases l<;>simp [gB] at h
 | box l =>
  match row,h with
  | [R],h =>
   simp only [gB] at h ⊢
   split at h
   ·rename_i c fW
    split at h
    ·rename_i bA
     rw [if_pos bA]
     split at h
     ·rename_i cK aq a8
      rw [oL (fun a b z h=>sF cv h) a8];exact h
     ·simp at h
    ·simp at h
   ·simp at h
  | [],h=>simp [gB] at h
  | _::_::_,h=>simp [gB] at h
theorem CN {aW:Nat→Option Nat} {aB:e8} : ∀ {l:List Src} {bN:List gj} {z:List (List ab)×List Prop},i6 fX aW aB l bN=some z→i6 aL aW aB l bN=some z
 | [],[],z,h=>h
 | .row r::l,c::bN,z,h=>by
  simp only [i6] at h ⊢
  split at h
  ·rename_i row dt
   rw [cv r row dt]
   simp only
   split at h
   ·rename_i cD bt T aO h1 h2
    rw [Hc cv h1,CN h2];exact h
   ·simp at h
  ·simp at h
 | .aq r k R::l,c::bN,z,h=>by
  simp only [i6] at h ⊢
  split at h
  ·rename_i row dt
   rw [cv r row dt]
   simp only
   split at h
   ·rename_i cD bt T aO h1 h2
    rw [Hc cv h1,CN h2];exact h
   ·simp at h
  ·simp at h
 | [],_::_,z,h=>by simp [i6] at h
 | .row _::_,[],z,h=>by simp [i6] at h
 | .aq .. :: _,[],z,h=>by simp [i6] at h
omit cv in
theorem xM {rc:Nat→Option (List ab)} {aW:Nat→Option Nat} {h9:e8} : ∀ {l:List Src} {bN:List gj} {T:List (List ab)} {aL fX:Nat→Option (List ab)} {z:List (Nat×List ab)×List Prop},
 (∀r row,fX r=some row→aL r=some row)→ir rc aW h9 fX l bN T=some z→ir rc aW h9 aL l bN T=some z
 | [],[],[],aL,fX,z,_,h=>h
 | .row q::l,c::bN,row::T,aL,fX,z,cv,h=>by
  simp only [ir] at h ⊢
  split at h
  ·rename_i cD bt h1
   split at h
   ·rename_i u aO h2
    rw [xM (fun r row ao=>by split at ao<;>rename_i e<;>simp only [e,if_true,if_false]<;>first|exact ao|exact cv _ _ ao) h2];exact h
   ·simp at h
  ·simp at h
 | .aq q k R::l,c::bN,row::T,aL,fX,z,cv,h=>by
  simp only [ir] at h ⊢
  split at h
  ·rename_i lZ a8
   rw [cv _ _ a8]
   simp only
   split at h
   ·rename_i bP bt h1
    split at h
    ·rename_i u aO h2
     rw [xM (fun r row ao=>by split at ao<;>rename_i e<;>simp only [e,if_true,if_false]<;>first|exact ao|exact cv _ _ ao) h2];exact h
    ·simp at h
   ·simp at h
  ·simp at h
 | [],[],_::_,_,_,_,_,h=>by simp [ir] at h
 | [],_::_,_,_,_,_,_,h=>by simp [ir] at h
 | .row _::_,[],_,_,_,_,_,h=>by simp [ir] at h
 | .aq .. :: _,[],_,_,_,_,_,h=>by simp [ir] at h
 | .row _::_,_::_,[],_,_,_,_,h=>by simp [ir] at h
 | .aq .. :: _,_::_,[],_,_,_,_,h=>by simp [ir] at h
omit cv in
theorem Dg : ∀ {u:List (Nat×List ab)} {aL fX:Nat→Option (List ab)} {q:Nat} {row:List ab},(∀r row,fX r=some row→aL r=some row)→ty u fX q=some row→ty u aL q=some row
 | [],_,_,_,_,cv,h=>cv _ _ h
 | (r,ae)::u,aL,fX,q,row,cv,h=>Dg (u:=u) (fun r row ao=>by split at ao<;>rename_i e<;>simp only [e,if_true,if_false]<;>first|exact ao|exact cv _ _ ao) h
theorem N3 {aI r n:Nat} {bi lB:gi} (h:qf fX aI r n bi=some lB):qf aL aI r n bi=some lB:=by
 unfold qf at h ⊢
 split at h
 ·rename_i eY l h1 h2
  rw [Dg cv h1,Dg cv h2];exact h
 ·simp at h
theorem OZ {P:Program} {aI:Nat} {f:FuncId} {args:List ax} {b7:w2} {bi:gi} (h:ta P fX aI f args b7=some bi):ta P aL aI f args b7=some bi:=by
 unfold ta at h ⊢
 simp only at h ⊢
 split at h
 ·simp at h
 ·rename_i iK h0
  split at h
  ·simp at h
  ·rename_i qQ
   rw [if_neg qQ]
   split at h
   ·rename_i wD
    rw [if_pos wD]
    split at h
    ·rename_i o5
     split at h
     ·rename_i ms bt dj dZ u d4 h1 ag ap
      rw [oL (fun a b z h=>Hb cv h) h1,ag,xM cv ap];exact h
     ·simp at h
    ·simp at h
   ·rename_i wD
    rw [if_neg wD]
    split at h
    ·rename_i ms bt T aO dj dZ u d4 h1 h2 ag ap
     rw [oL (fun a b z h=>Hb cv h) h1,CN cv h2,ag,xM cv ap];exact h
    ·simp at h
end
theorem mapM_congr {α β:Type} {f hT:α→Option β} : ∀ {l:List α},(∀x∈l,hT x=f x)→l.mapM hT=l.mapM f
 | [],_=>rfl
 | x::l,h=>by
  rw [List.mapM_cons,List.mapM_cons,h x (by simp),mapM_congr fun y aF=>h y (by simp [aF])]
theorem ya {P:Program} {E kb:Nat→ax} {aL fX:Nat→Option (List ab)} {aI:Nat} {R:Oper} {ck:eS} {bi:gi}
 (dz : ∀x∈R.op.operands,dL kb x=dL E x) (cv : ∀r row,fX r=some row→aL r=some row) (h:dm P kb fX aI R ck=some bi):dm P E aL aI R ck=some bi:=by
 have a5 : ∀ {r k:Nat} {z:ab×List Prop},lA (fX r) k ck=some z→lA (aL r) k ck=some z:=fun h=>Pw cv h
 cases al:R.op with
 | move x=>simp only [dm,al] at h ⊢;rw [← dz x (by simp [al,Op.operands])];exact h
 | assign x=>simp only [dm,al] at h ⊢;rw [← dz x (by simp [al,Op.operands])];exact h
 | pick c x y =>
  simp only [dm,al] at h ⊢
  rw [← dz c (by simp [al,Op.operands]),← dz x (by simp [al,Op.operands]),← dz y (by simp [al,Op.operands])];exact h
 | alloc t=>simp only [dm,al] at h ⊢;exact h
 | box t x=>simp only [dm,al] at h ⊢;rw [← dz x (by simp [al,Op.operands])];exact h
 | load t x =>
  simp only [dm,al] at h ⊢
  rw [← dz x (by simp [al,Op.operands])]
  split at h
  ·split at h
   ·rename_i aR;rw [a5 aR];exact h
   ·simp at h
  ·exact h
  ·simp at h
 | store t x y =>
  simp only [dm,al] at h ⊢
  rw [← dz x (by simp [al,Op.operands]),← dz y (by simp [al,Op.operands])]
  split at h
  ·split at h
   ·simp at h
   ·rename_i row dt
    rw [cv _ row dt];exact h
  ·simp at h
 | nilCheck x =>
  simp only [dm,al] at h ⊢
  rw [← dz x (by simp [al,Op.operands])]
  split at h
  ·split at h
   ·rename_i aR;rw [a5 aR];exact h
   ·simp at h
  ·exact h
  ·exact h
  ·simp at h
 | binOp op t x y h7 =>
  simp only [dm,al] at h ⊢
  rw [← dz x (by simp [al,Op.operands]),← dz y (by simp [al,Op.operands])];exact h
 | unOp op t x=>simp only [dm,al] at h ⊢;rw [← dz x (by simp [al,Op.operands])];exact h
 | convert t h7 x =>
  simp only [dm,al] at h ⊢
  rw [← dz x (by simp [al,Op.operands])]
  split at h
  ·exact h
  ·rename_i r k bD len h1 h2
   split at h
   ·rename_i aq ag ap
    rw [vc cv ap,ag];exact h
   ·simp at h
  ·simp at h
 | makeFunc f zr b7 =>
  cases f with
  | func n =>
   simp only [dm,al] at h ⊢
   have:b7.toList.map (dL kb)=b7.toList.map (dL E):=List.map_congr_left fun x af=>dz x (by simp [al,Op.operands];right;simpa using af)
   rw [← this];exact h
  | _=>simp [dm,al] at h
 | makeSlice t x y =>
  simp only [dm,al] at h ⊢
  rw [← dz x (by simp [al,Op.operands]),← dz y (by simp [al,Op.operands])];exact h
 | fieldAddr t x f =>
  simp only [dm,al] at h ⊢
  rw [← dz x (by simp [al,Op.operands])]
  split at h
  ·split at h
   ·split at h
    ·simp at h
    ·rename_i cH
     rw [if_neg cH]
     split at h
     ·split at h
      ·rename_i aR;rw [a5 aR];exact h
      ·simp at h
     ·exact h
     ·simp at h
   ·simp at h
  ·simp at h
 | field t x f=>simp only [dm,al] at h ⊢;rw [← dz x (by simp [al,Op.operands])];exact h
 | indexAddr t x y =>
  simp only [dm,al] at h ⊢
  rw [← dz x (by simp [al,Op.operands]),← dz y (by simp [al,Op.operands])]
  split at h
  ·split at h
   ·exact h
   ·split at h
    ·rename_i row dt
     rw [cv _ row dt];exact h
    ·simp at h
   ·simp at h
  ·simp at h
 | index t x y =>
  simp only [dm,al] at h ⊢
  rw [← dz x (by simp [al,Op.operands]),← dz y (by simp [al,Op.operands])];exact h
 | extract x i=>simp only [dm,al] at h ⊢;rw [← dz x (by simp [al,Op.operands])];exact h
 | slice t x bD bj E1 =>
  cases E1 with
  | none =>
   simp only [dm,al] at h ⊢
   have e1:bD.map (dL kb)=bD.map (dL E):=by
    cases bD with
    | none=>rfl
    | some y=>simp only [Option.map_some];rw [dz y (by simp [al,Op.operands])]
   have e2:bj.map (dL kb)=bj.map (dL E):=by
    cases bj with
    | none=>rfl
    | some y=>simp only [Option.map_some];rw [dz y (by simp [al,Op.operands])]
   rw [← dz x (by simp [al,Op.operands]),← e1,← e2]
   split at h
   ·exact h
   ·split at h
    ·simp at h
    ·rename_i row dt
     rw [cv _ row dt];exact h
   ·exact h
   ·simp at h
  | some m=>simp [dm,al] at h
 | build t cm =>
  simp only [dm,al] at h ⊢
  have aj : ∀p∈cm.toList,dL kb p.2=dL E p.2:=fun p aj=>dz p.2 (by
   simp only [al,Op.operands]
   rw [← Array.mem_toList_iff]
   simp only [List.mem_map]
   exact ⟨p,aj,rfl⟩)
  split at h
  ·rename_i h6 z _ _
   split at h
   ·simp at h
   ·rename_i aR
    rw [if_neg aR]
    have e:(cm.toList.mapM fun (p:Nat×Operand)=>(h6[p.1]?).map fun fd=>(fd.offset,P.cellsOf fd.type,dL kb p.2)) =
     cm.toList.mapM fun (p:Nat×Operand)=>(h6[p.1]?).map fun fd=>(fd.offset,P.cellsOf fd.type,dL E p.2):=mapM_congr fun p ko=>by rw [aj p ko]
    rw [← e];exact h
  ·simp at h
 | buildSlice t n cm =>
  simp only [dm,al] at h ⊢
  have aj : ∀p∈cm.toList,dL kb p.2=dL E p.2:=fun p aj=>dz p.2 (by
   simp only [al,Op.operands]
   rw [← Array.mem_toList_iff]
   simp only [List.mem_map]
   exact ⟨p,aj,rfl⟩)
  have e:(cm.toList.map fun p=>(p.1,dL kb p.2))=cm.toList.map fun p=>(p.1,dL E p.2):=List.map_congr_left fun p ko=>by rw [aj p ko]
  rw [← e];exact h
 | call c =>
  obtain ⟨y2,args,kO⟩:=c
  cases y2 with
  | builtin b =>
   cases b<;>first
    | (simp only [dm,al] at h ⊢
       have e:args.toList.map (dL kb)=args.toList.map (dL E):=List.map_congr_left fun x af=>dz x (by
        simp only [al,Op.operands,Call.operands]
        simpa using af)
       rw [← e]
       split at h
       ·exact h
       ·split at h
        ·rename_i row dt
         rw [cv _ row dt];exact h
        ·simp at h
       ·exact h
       ·exact h
       ·simp at h)
    | simp [dm,al] at h
  | value f=>simp [dm,al] at h
  | invoke r m=>simp [dm,al] at h
 | _=>simp [dm,al] at h
theorem O0 {aL fX:Nat→Option (List ab)} (cv : ∀r row,fX r=some row→aL r=some row) {sz:Nat} {x:ax} {z:List (List ax)×List Prop} (h:nJ sz fX x=some z):nJ sz aL x=some z:=by
 cases x with
 | aN r k bD len =>
  simp only [nJ] at h ⊢
  split at h
  ·rename_i aq a5
   rw [vc cv a5];exact h
  ·simp at h
 | _=>exact h
theorem Qi {P:Program} {E kb:Nat→ax} {aL fX:Nat→Option (List ab)} {aI:Nat} {b:Builtin} {args:List ax} {kO:List TypeId} {ck:eS} {bi:gi}
 (cv : ∀r row,fX r=some row→aL r=some row) (h:o2 P kb fX aI b args kO ck=some bi):o2 P E aL aI b args kO ck=some bi:=by
 unfold o2 at h ⊢
 split at h
 ·split at h
  ·simp at h
  ·rename_i wq
   rw [if_neg wq]
   split at h
   ·simp at h
   ·split at h
    ·split at h
     ·simp at h
     ·rename_i a8
      rw [if_neg a8]
      split at h
      ·simp at h
      ·rename_i bT bt yP
       rw [O0 cv yP]
       simp only
       split at h
       ·exact h
       ·split at h
        ·simp at h
        ·rename_i row dt
         rw [cv _ row dt];exact h
       ·simp at h
    ·simp at h
 ·exact h
 ·simp at h
theorem Qj {P:Program} {E kb:Nat→ax} {aL fX:Nat→Option (List ab)} {aI:Nat} {R:Oper} {ck:eS} {bi:gi}
 (dz : ∀x∈R.op.operands,dL kb x=dL E x) (cv : ∀r row,fX r=some row→aL r=some row) (h:tu P kb fX aI R ck=some bi):tu P E aL aI R ck=some bi:=by
 unfold tu at h ⊢
 split at h
 ·rename_i b args kO al
  split at h
  ·exact ya dz cv h
  ·have e:args.toList.map (dL kb)=args.toList.map (dL E):=List.map_congr_left fun x af=>dz x (by
    simp only [al,Op.operands,Call.operands]
    simpa using af)
   rw [← e]
   exact Qi cv h
 ·rename_i op t x y h7 al
  have hj:=dz x (by simp [al,Op.operands])
  have hS:=dz y (by simp [al,Op.operands])
  rw [← hj,← hS]
  split at h
  ·exact h
  ·exact h
  ·exact h
  ·exact h
  ·exact h
  ·exact h
  ·simp at h
  ·exact ya dz cv h
 ·rename_i x al
  have hj:=dz x (by simp [al,Op.operands])
  rw [← hj]
  split at h
  ·exact h
  ·simp at h
  ·exact ya dz cv h
 ·exact ya dz cv h
theorem pX {P:Program} {s bu:S} {aI:Nat} {R:Oper} {ck:eS} {bi:gi}
 (dz : ∀x∈R.op.operands,dL bu.E x=dL s.E x) (cv : ∀r row,bu.aL r=some row→s.aL r=some row) (ao:s4 P bu aI R ck=some bi):s4 P s aI R ck=some bi:=by
 unfold s4 at ao ⊢
 split at ao
 ·rename_i b7
  split at ao
  ·rename_i f args jU al
   simp only [al] at ao dz ⊢
   have bQ:=dz f (by simp [Op.operands,Call.operands])
   have bH:args.toList.map (dL bu.E)=args.toList.map (dL s.E):=List.map_congr_left fun x af=>dz x (by
    simp only [Op.operands,Call.operands]
    simp only [Array.mem_append];right;simpa using af)
   rw [bQ,bH] at ao
   split at ao
   ·exact OZ cv ao
   ·simp at ao
  ·simp at ao
 ·exact Qj dz cv ao
theorem xT {P:Program} {aI:Nat} {R:Oper} : ∀(ck:eS) (s bu:S) (bi:gi),(∀x∈R.op.operands,dL bu.E x=dL s.E x)→(∀r row,bu.aL r=some row→s.aL r=some row) →
 hZ P aI R ck bu=some bi→hZ P aI R ck s=some bi
 | .eT t v eC,s,bu,bi,dz,cv,h=>by
  unfold hZ at h ⊢
  split at h
  ·rename_i fR
   rw [if_pos fR]
   have jg:Operand.tmp t∈R.op.operands:=by
    unfold IP at fR
    rw [List.any_eq_true] at fR
    obtain ⟨x,af,aR⟩:=fR
    cases x with
    | tmp u =>
     have:u=t:=by simpa using aR
     subst this
     simpa using af
    | _=>simp at aR
   have het:bu.E t=s.E t:=dz _ jg
   split at h
   ·rename_i r ao
    have:=xT eC {E:=fun u=>if u=t then v else s.E u,aL:=s.aL} {E:=fun u=>if u=t then v else bu.E u,aL:=bu.aL} r (fun x af=>by
     cases x with
     | tmp u =>
      show (if u=t then v else bu.E u)=(if u=t then v else s.E u)
      split
      ·rfl
      ·exact dz (.tmp u) af
     | _=>rfl) cv ao
    rw [this]
    simp only
    rw [← het];exact h
   ·simp at h
  ·simp at h
 | .nR r eC,s,bu,bi,dz,cv,h=>by
  unfold hZ at h ⊢
  split at h
  ·rename_i row dt
   rw [cv r row dt]
   simp only
   split at h
   ·rename_i lB ao
    have:=xT eC (s.setRow r (ic row)) (bu.setRow r (ic row)) lB dz (fun q cD aR=>by
     simp only [S.setRow] at aR ⊢
     split at aR
     ·rename_i e;rw [if_pos e];exact aR
     ·rename_i e;rw [if_neg e];exact cv q cD aR) ao
    rw [this]
    exact h
   ·simp at h
  ·simp at h
 | .w3 r n eC,s,bu,bi,dz,cv,h=>by
  unfold hZ at h ⊢
  split at h
  ·rename_i lB ao
   rw [xT eC s bu lB dz cv ao]
   exact N3 cv h
  ·simp at h
 | .none,s,bu,bi,dz,cv,h=>by unfold hZ at h ⊢;exact pX dz cv h
 | .ah b,s,bu,bi,dz,cv,h=>by unfold hZ at h ⊢;exact pX dz cv h
 | .b8 c,s,bu,bi,dz,cv,h=>by unfold hZ at h ⊢;exact pX dz cv h
 | .yN aq c,s,bu,bi,dz,cv,h=>by unfold hZ at h ⊢;exact pX dz cv h
 | .cY,s,bu,bi,dz,cv,h=>by unfold hZ at h ⊢;exact pX dz cv h
 | .call c,s,bu,bi,dz,cv,h=>by unfold hZ at h ⊢;exact pX dz cv h
 | .az m,s,bu,bi,dz,cv,h=>by unfold hZ at h ⊢;exact pX dz cv h
def tmpsOf (R:Oper):List Nat:=R.op.operands.toList.filterMap fun | .tmp t=>some t|_=>none
def Q4:ax→List Nat
 | .ref r _ _ _=>[r]
 | .aN r _ _ _=>[r]
 | .gm r _ _ _=>[r]
 | _=>[]
def kR (ops:Array Oper) (R:Oper):List Nat :=
 tmpsOf R++(match R.guard with
  | some (j,_)=>((ops[j]?).bind (·.dst)).toList
  | none=>[])
def tz (s:S) (R:Oper):eS→List Nat
 | .call b7=>b7.b6
 | .eT t v eC=>tz {E:=fun u=>if u=t then v else s.E u,aL:=s.aL} R eC
 | .nR r eC=>r::tz s R eC
 | .w3 r _ eC=>r::tz s R eC
 | _=>match R.op with
  | .move _=>[]
  | _=>(tmpsOf R).flatMap fun t=>Q4 (s.E t)
def S.only (s:S) (jU gQ:List Nat):S:={E:=fun t=>if jU.contains t then s.E t else .dead,aL:=fun r=>if gQ.contains r then s.aL r else none}
theorem CV {P:Program} {N:Nat} {ops:Array Oper} {s:S} {aI:Nat} {R:Oper} {eC:eS×Bool} {bi:gi} {gQ:List Nat}
 (h:mu P N ops (s.only (kR ops R) gQ) aI R eC=some bi):mu P N ops s aI R eC=some bi:=by
 have dz : ∀x∈R.op.operands,dL (s.only (kR ops R) gQ).E x=dL s.E x:=by
  intro x af
  cases x with
  | tmp t =>
   have:t∈kR ops R:=by
    unfold kR
    rw [List.mem_append];left
    unfold tmpsOf
    rw [List.mem_filterMap]
    exact ⟨.tmp t,by simpa using af,rfl⟩
   simp [dL,S.only,this]
  | _=>rfl
 have cv : ∀r row,(s.only (kR ops R) gQ).aL r=some row→s.aL r=some row:=by
  intro r row ao
  simp only [S.only] at ao
  split at ao
  ·exact ao
  ·simp at ao
 have h0 : ∀r,yw P (s.only (kR ops R) gQ) aI R eC.1=some r→yw P s aI R eC.1=some r:=fun r ao=>xT eC.1 s _ r dz cv ao
 have h1 : ∀r,oa P (s.only (kR ops R) gQ) aI R eC.1=some r→oa P s aI R eC.1=some r:=by
  intro r ao
  unfold oa at ao ⊢
  split at ao
  ·rename_i dj fK
   rw [h0 dj fK]
   simp only
   split at ao
   ·rename_i a8
    rw [if_pos]
    ·exact ao
    ·rw [List.all_eq_true] at a8 ⊢
     intro p aj
     have:=a8 p aj
     simp only [Bool.or_eq_true,decide_eq_true_eq] at this ⊢
     rcases this with e|e
     ·exact .inl e
     ·right
      cases aR:(s.only (kR ops R) gQ).aL p.1 with
      | none=>rw [aR] at e;simp at e
      | some row=>rw [cv _ row aR];rfl
   ·simp at ao
  ·simp at ao
 unfold mu at h ⊢
 split at h
 ·simp at h
 ·rename_i vY
  rw [if_neg vY]
  split at h
  ·exact h1 _ h
  ·rename_i j want ef
   split at h
   ·simp at h
   ·rename_i d a0
    have jg:d∈kR ops R:=by
     unfold kR
     rw [List.mem_append];right
     simp [ef,a0]
    have he:(s.only (kR ops R) gQ).E d=s.E d:=by simp [S.only,jg]
    rw [he] at h
    split at h
    ·split at h
     ·rename_i aT
      rw [if_pos aT]
      split at h
      ·rename_i r ao
       rw [h1 r ao];exact h
      ·simp at h
     ·rename_i aT
      rw [if_neg aT];exact h
    ·exact h
    ·simp at h
structure Rec where
 R:Oper
 eC:eS×Bool
 jU:List Nat
 gQ:List Nat
 bi:gi
def mo (P:Program) (N:Nat) (ops:Array Oper):List Oper→List (eS×Bool)→S→Nat→Option (S×List Rec)
 | [],[],s,_=>some (s,[])
 | R::l,eC::ck,s,aI =>
  match mu P N ops (s.only (kR ops R) (aI::tz s R eC.1)) aI R eC with
  | some bi=>match mo P N ops l ck (s.az R bi) (aI+1) with
   | some (bu,rec)=>some (bu,⟨R,eC,kR ops R,aI::tz s R eC.1,bi⟩::rec)
   | none=>none
  | none=>none
 | _,_,_,_=>none
def meets (a b:List Nat):Bool:=a.any fun x=>b.contains x
def lU (x y:Rec):Bool :=
 meets x.R.dst.toList (y.jU++y.R.dst.toList) || meets x.jU y.R.dst.toList ||
 meets (x.bi.eV.map (·.1)) (y.gQ++y.bi.eV.map (·.1)) || meets x.gQ (y.bi.eV.map (·.1))
end Go.VL
namespace Go.VL
set_option linter.unusedVariables false
set_option linter.unusedSimpArgs false
open Go
def S.il (s:S):Nat⊕Nat→ax⊕Option (List ab)
 | .inl t=> .inl (s.E t)
 | .inr r=> .inr (s.aL r)
theorem S.IQ {s bu:S} (h : ∀L,s.il L=bu.il L):s=bu:=by
 obtain ⟨E,aL⟩:=s
 obtain ⟨kb,fX⟩:=bu
 have h1:E=kb:=funext fun t=>by have:=h (.inl t);simpa [S.il] using this
 have h2:aL=fX:=funext fun r=>by have:=h (.inr r);simpa [S.il] using this
 rw [h1,h2]
def lM:List (Nat×List ab)→Nat→Option (List ab)
 | [],_=>none
 | (r,row)::u,q=>match lM u q with
  | some x=>some x
  | none=>if r=q then some row else none
theorem HA : ∀(u:List (Nat×List ab)) (s:S) (q:Nat),(s.gE u).aL q=match lM u q with|some x=>some x|none=>s.aL q
 | [],s,q=>rfl
 | (r,row)::u,s,q=>by
  show ((s.setRow r row).gE u).aL q=_
  rw [HA u (s.setRow r row) q]
  simp only [lM]
  cases lM u q with
  | some x=>rfl
  | none =>
   simp only [S.setRow]
   by_cases h:r=q
   ·subst h;simp
   ·rw [if_neg (Ne.symm h),if_neg h]
theorem uU : ∀(u:List (Nat×List ab)) (q:Nat),lM u q≠none→q∈u.map (·.1)
 | [],q,h=>by simp [lM] at h
 | (r,row)::u,q,h=>by
  simp only [lM] at h
  cases aR:lM u q with
  | some x=>simp [uU u q (by rw [aR];simp)]
  | none =>
   rw [aR] at h
   simp only at h
   by_cases e:r=q
   ·simp [e]
   ·rw [if_neg e] at h;simp at h
def jO (x:Rec):Nat⊕Nat→Option (ax⊕Option (List ab))
 | .inl t=>if x.R.dst=some t then some (.inl x.bi.val) else none
 | .inr r=>(lM x.bi.eV r).map fun row=> .inr (some row)
theorem vy (s:S) (x:Rec) (L:Nat⊕Nat):(s.az x.R x.bi).il L=(jO x L).getD (s.il L):=by
 cases L with
 | inl t =>
  simp only [S.il,jO,S.az]
  cases a0:x.R.dst with
  | none=>simp [S.put,vx]
  | some d =>
   simp only [S.put,Option.some.injEq]
   by_cases h:t=d
   ·subst h;simp
   ·rw [if_neg h,if_neg (Ne.symm h),vx];rfl
 | inr r =>
  simp only [S.il,jO,S.az,S.oT]
  rw [HA]
  cases lM x.bi.eV r<;>rfl
def fE:List Rec→(Nat→Bool)→Nat→S→S
 | [],_,_,s=>s
 | x::l,f,n,s=>fE l f (n+1) (if f n then s.az x.R x.bi else s)
theorem CO (L:Nat⊕Nat) : ∀(l:List Rec) (f hT:Nat→Bool) (n:Nat) (s bu:S),s.il L=bu.il L →
 (∀(i:Nat) x,l[i]? = some x→jO x L≠none→f (n+i)=hT (n+i))→(fE l f n s).il L=(fE l hT n bu).il L
 | [],_,_,_,_,_,h,_=>h
 | x::l,f,hT,n,s,bu,h,bQ=>by
  simp only [fE]
  refine CO L l f hT (n+1) _ _ ?_ fun i y aF he=>by
   have:=bQ (i+1) y (by simpa using aF) he
   rw [show n+1+i=n+(i+1) by omega];exact this
  cases he:jO x L with
  | none =>
   have e : ∀(b:Bool) (s:S),(if b then s.az x.R x.bi else s).il L=s.il L:=by
    intro b s
    cases b
    ·rfl
    ·simp [vy,he]
   rw [e,e,h]
  | some c =>
   have:=bQ 0 x rfl (by rw [he];simp)
   simp only [Nat.add_zero] at this
   rw [this]
   cases hT n
   ·exact h
   ·simp [vy,he]
theorem Hd (L:Nat⊕Nat) : ∀(l:List Rec) (f:Nat→Bool) (n:Nat) (s:S),(∀(i:Nat) x,l[i]? = some x→f (n+i)=true→jO x L=none)→(fE l f n s).il L=s.il L
 | [],_,_,_,_=>rfl
 | x::l,f,n,s,h=>by
  simp only [fE]
  rw [Hd L l f (n+1) _ fun i y aF bQ=>h (i+1) y (by simpa using aF) (by rw [show n+(i+1)=n+1+i by omega];exact bQ)]
  cases bQ:f n
  ·rfl
  ·have:=h 0 x rfl (by simpa using bQ)
   simp [vy,this]
theorem He (L:Nat⊕Nat) : ∀(l:List Rec) (f:Nat→Bool) (n j:Nat) (s:S) (x:Rec) (c:ax⊕Option (List ab)),l[j]? = some x→f (n+j)=true→jO x L=some c →
 (∀(i:Nat) y,l[i]? = some y→j<i→f (n+i)=true→jO y L=none)→(fE l f n s).il L=c
 | [],_,_,_,_,_,_,h,_,_,_=>by simp at h
 | y::l,f,n,0,s,x,c,h,bQ,he,bA=>by
  simp at h;subst h
  simp only [fE]
  rw [Hd L l f (n+1) _ fun i z cH hfz=>bA (i+1) z (by simpa using cH) (by omega) (by rw [show n+(i+1)=n+1+i by omega];exact hfz)]
  simp only [Nat.add_zero] at bQ
  simp [bQ,vy,he]
 | y::l,f,n,j+1,s,x,c,h,bQ,he,bA=>by
  simp only [fE]
  exact He L l f (n+1) j _ x c (by simpa using h) (by rw [show n+1+j=n+(j+1) by omega];exact bQ) he fun i z cH mF hfz =>
   bA (i+1) z (by simpa using cH) (by omega) (by rw [show n+(i+1)=n+1+i by omega];exact hfz)
theorem uV : ∀(l:List Rec) (f hT:Nat→Bool) (n:Nat) (s:S),(∀i,i<l.length→f (n+i)=hT (n+i))→fE l f n s=fE l hT n s
 | [],_,_,_,_,_=>rfl
 | x::l,f,hT,n,s,h=>by
  simp only [fE]
  have h0:=h 0 (by simp)
  simp only [Nat.add_zero] at h0
  rw [h0]
  exact uV l f hT (n+1) _ fun i bj=>by rw [show n+1+i=n+(i+1) by omega];exact h (i+1) (by simpa using bj)
theorem GP {P:Program} {N:Nat} {ops:Array Oper} : ∀(l:List Oper) (ck:List (eS×Bool)) (s bu:S) (aI:Nat) (gQ:List Rec),mo P N ops l ck s aI=some (bu,gQ)→s.hX aI →
 gQ.length=l.length∧bu=fE gQ (fun _=>true) 0 s∧ ∀(i:Nat) x,gQ[i]? = some x→l[i]? = some x.R∧x.jU=kR ops x.R ∧
  aI+i∈x.gQ∧mu P N ops ((fE (gQ.take i) (fun _=>true) 0 s).only x.jU x.gQ) (aI+i) x.R x.eC=some x.bi∧(fE (gQ.take i) (fun _=>true) 0 s).hX (aI+i)
 | [],[],s,bu,aI,gQ,h,bQ=>by
  simp [mo] at h;obtain ⟨rfl,rfl⟩:=h
  exact ⟨rfl,rfl,fun i x af=>by simp at af⟩
 | R::l,eC::ck,s,bu,aI,gQ,h,bQ=>by
  simp only [mo] at h
  split at h
  ·rename_i bi ar
   split at h
   ·rename_i s2 Ey h2
    simp only [Option.some.injEq,Prod.mk.injEq] at h
    obtain ⟨rfl,rfl⟩:=h
    have wu : ∀(l:List Rec) (n:Nat) (s:S),fE l (fun _=>true) (n+1) s=fE l (fun _=>true) n s:=by
     intro l
     induction l with
     | nil=>intro n s;rfl
     | cons x l ih=>intro n s;simp only [fE];exact ih (n+1) _
    obtain ⟨e1,e2,bp⟩:=GP l ck (s.az R bi) s2 (aI+1) Ey h2 (xS (CV ar) bQ)
    refine ⟨by simp [e1],?_,fun i x af=> ?_⟩
    ·simp only [fE,if_true]
     rw [wu];exact e2
    ·cases i with
     | zero =>
      simp at af;subst af
      exact ⟨rfl,rfl,by simp,ar,bQ⟩
     | succ i =>
      simp at af
      obtain ⟨f1,f2,f0,f3,f4⟩:=bp i x af
      have e:fE ((⟨R,eC,kR ops R,aI::tz s R eC.1,bi⟩::Ey).take (i+1)) (fun _=>true) 0 s=fE (Ey.take i) (fun _=>true) 0 (s.az R bi):=by
       simp only [List.take_succ_cons,fE,if_true]
       rw [wu]
      rw [e,show aI+(i+1)=aI+1+i by omega]
      exact ⟨by simpa using f1,f2,f0,f3,f4⟩
   ·simp at h
  ·simp at h
 | [],_::_,_,_,_,_,h,_=>by simp [mo] at h
 | _::_,[],_,_,_,_,h,_=>by simp [mo] at h
inductive mG (ops:Array Oper):Nat→Nat→Prop
 | one {i j:Nat} {R:Oper} {e:Edge} (al:ops[j]? = some R) (he:e∈R.after) (aT:Region.binds .any e=true) (h:e.on=i):mG ops i j
 | step {i j k:Nat} {R:Oper} {e:Edge} (al:ops[j]? = some R) (he:e∈R.after) (aT:Region.binds .any e=true) (h:e.on=k) (bA:mG ops i k):mG ops i j
def vH:List Oper→List Nat→List Nat
 | [],acc=>acc
 | R::l,acc=>vH l (acc++[R.after.toList.foldl (fun m e=>if Region.binds .any e then m ||| (1 <<< e.on) ||| (acc.getD e.on 0) else m) 0])
theorem HB {ops:Array Oper} {j:Nat} {R:Oper} (al:ops[j]? = some R) {acc:List Nat} (Jy : ∀k i,(acc.getD k 0).testBit i=true→mG ops i k) : ∀(es:List Edge) (m:Nat),(∀e∈es,e∈R.after) →
 (∀i,m.testBit i=true→mG ops i j)→ ∀i,(es.foldl (fun m e=>if Region.binds .any e then m ||| (1 <<< e.on) ||| (acc.getD e.on 0) else m) m).testBit i=true→mG ops i j
 | [],m,_,hm,i,h=>hm i h
 | e::es,m,fW,hm,i,h=>by
  simp only [List.foldl_cons] at h
  refine HB al Jy es _ (fun eJ kL=>fW eJ (by simp [kL])) ?_ i h
  intro i bj
  split at bj
  ·rename_i aT
   rw [Nat.testBit_or,Nat.testBit_or,Bool.or_eq_true,Bool.or_eq_true] at bj
   rcases bj with (bj|bj)|bj
   ·exact hm i bj
   ·rw [Nat.testBit_shiftLeft] at bj
    simp only [Bool.and_eq_true,decide_eq_true_eq] at bj
    have:i-e.on=0:=by
     have:=bj.2
     rcases Nat.eq_zero_or_pos (i-e.on) with h0|h0
     ·exact h0
     ·rw [Nat.testBit_one_eq_true_iff_self_eq_zero] at this;exact this
    exact .one al (fW e (by simp)) aT (by omega)
   ·exact .step al (fW e (by simp)) aT rfl (Jy _ _ bj)
  ·exact hm i bj
theorem HC {ops:Array Oper} : ∀(l:List Oper) (acc:List Nat),(∀(i:Nat) R,l[i]? = some R→ops[acc.length+i]? = some R)→(∀k i,(acc.getD k 0).testBit i=true→mG ops i k) →
 ∀k i,((vH l acc).getD k 0).testBit i=true→mG ops i k
 | [],acc,_,h,k,i,bA=>h k i bA
 | R::l,acc,aM,h,k,i,bA=>by
  simp only [vH] at bA
  refine HC l _ (fun i bP cT=>by
   have:=aM (i+1) bP (by simpa using cT)
   simp only [List.length_append,List.length_cons,List.length_nil]
   rw [show acc.length+(0+1)+i=acc.length+(i+1) by omega];exact this) ?_ k i bA
  intro k i bA
  rw [List.getD_eq_getElem?_getD,List.getElem?_append] at bA
  split at bA
  ·exact h k i (by rw [List.getD_eq_getElem?_getD];exact bA)
  ·rename_i c0
   by_cases e:k=acc.length
   ·subst e
    simp only [Nat.sub_self,List.getElem?_cons_zero,Option.getD_some] at bA
    exact HB (aM 0 R rfl) h _ 0 (fun e he=>by simpa using he) (fun i bj=>by simp at bj) i bA
   ·rw [List.getElem?_eq_none (by simp;omega)] at bA
    simp at bA
def vo (m:Nat) (y:Rec):List Rec→Nat→Bool
 | [],_=>true
 | x::l,i=>(!lU x y || m.testBit i) && vo m y l (i+1)
def yG (fq:List Rec):List Rec→List Nat→Nat→Bool
 | [],_,_=>true
 | y::l,e7,j=>vo (e7.headD 0) y (fq.take j) 0 && y.R.after.toList.all (fun e=> !Region.binds .any e || decide (e.on<j)) && yG fq l e7.tail (j+1)
theorem Hf {m:Nat} {y:Rec} : ∀(l:List Rec) (n:Nat),vo m y l n=true→ ∀(i:Nat) x,l[i]? = some x→lU x y=true→m.testBit (n+i)=true
 | [],_,_,i,x,af,_=>by simp at af
 | z::l,n,h,i,x,af,a8=>by
  simp only [vo,Bool.and_eq_true,Bool.or_eq_true,Bool.not_eq_true'] at h
  cases i with
  | zero =>
   simp at af;subst af
   rcases h.1 with e|e
   ·rw [e] at a8;simp at a8
   ·simpa using e
  | succ i =>
   have:=Hf l (n+1) h.2 i x (by simpa using af) a8
   rw [show n+(i+1)=n+1+i by omega];exact this
theorem H2 {fq:List Rec} : ∀(l:List Rec) (e7:List Nat) (j:Nat),yG fq l e7 j=true→ ∀(i:Nat) y,l[i]? = some y →
 vo (e7.getD i 0) y (fq.take (j+i)) 0=true∧ ∀e∈y.R.after,Region.binds .any e=true→e.on<j+i
 | [],_,_,_,i,y,aF=>by simp at aF
 | z::l,e7,j,h,i,y,aF=>by
  simp only [yG,Bool.and_eq_true] at h
  cases i with
  | zero =>
   simp at aF;subst aF
   refine ⟨?_,fun e he aT=> ?_⟩
   ·have:e7.getD 0 0=e7.headD 0:=by cases e7<;>rfl
    rw [this];exact h.1.1
   ·have:=List.all_eq_true.1 h.1.2 e (by simpa using he)
    simpa [aT] using this
  | succ i =>
   obtain ⟨e1,e2⟩:=H2 l e7.tail (j+1) h.2 i y (by simpa using aF)
   refine ⟨?_,fun e he aT=> ?_⟩
   ·have:e7.getD (i+1) 0=e7.tail.getD i 0:=by cases e7<;>rfl
    rw [this,show j+(i+1)=j+1+i by omega];exact e1
   ·have:=e2 e he aT;omega
end Go.VL
namespace Go.VL
set_option linter.unusedVariables false
set_option linter.unusedSimpArgs false
open Go
theorem sH {a b:List Nat} {x:Nat} (bH:x∈a) (aT:x∈b):meets a b=true:=by
 unfold meets
 rw [List.any_eq_true]
 exact ⟨x,bH,by simpa using aT⟩
theorem OC {x y:Rec} (h:lU x y=false) {L:Nat⊕Nat} (af:jO x L≠none):jO y L=none:=by
 simp only [lU,Bool.or_eq_false_iff] at h
 cases L with
 | inl t =>
  simp only [jO] at af ⊢
  by_cases h1:x.R.dst=some t
  ·by_cases h2:y.R.dst=some t
   ·have:=sH (a:=x.R.dst.toList) (b:=y.jU++y.R.dst.toList) (x:=t) (by simp [h1]) (by simp [h2])
    rw [h.1.1.1] at this;simp at this
   ·simp [h2]
  ·simp [h1] at af
 | inr r =>
  simp only [jO] at af ⊢
  cases h2:lM y.bi.eV r with
  | none=>rfl
  | some row =>
   have fT:r∈x.bi.eV.map (·.1):=uU _ _ (by intro e;simp [e] at af)
   have fp:r∈y.bi.eV.map (·.1):=uU _ _ (by rw [h2];simp)
   have:=sH fT (b:=y.gQ++y.bi.eV.map (·.1)) (by simp only [List.mem_append];exact .inr fp)
   rw [h.1.2] at this;simp at this
def Rec.yT (x:Rec):Nat⊕Nat→Prop
 | .inl t=>t∈x.jU
 | .inr r=>r∈x.gQ
theorem OD {x y:Rec} (h:lU x y=false) {L:Nat⊕Nat} (aF:y.yT L):jO x L=none:=by
 simp only [lU,Bool.or_eq_false_iff] at h
 cases L with
 | inl t =>
  simp only [jO]
  by_cases h1:x.R.dst=some t
  ·have:=sH (a:=x.R.dst.toList) (b:=y.jU++y.R.dst.toList) (x:=t) (by simp [h1]) (by simp only [List.mem_append];exact .inl aF)
   rw [h.1.1.1] at this;simp at this
  ·simp [h1]
 | inr r =>
  simp only [jO]
  cases h2:lM x.bi.eV r with
  | none=>rfl
  | some row =>
   have fT:r∈x.bi.eV.map (·.1):=uU _ _ (by rw [h2];simp)
   have:=sH fT (b:=y.gQ++y.bi.eV.map (·.1)) (by simp only [List.mem_append];exact .inl aF)
   rw [h.1.2] at this;simp at this
theorem OE {x y:Rec} (h:lU x y=false) {L:Nat⊕Nat} (af:x.yT L):jO y L=none:=by
 simp only [lU,Bool.or_eq_false_iff] at h
 cases L with
 | inl t =>
  simp only [jO]
  by_cases h1:y.R.dst=some t
  ·have:=sH (a:=x.jU) (b:=y.R.dst.toList) (x:=t) af (by simp [h1])
   rw [h.1.1.2] at this;simp at this
  ·simp [h1]
 | inr r =>
  simp only [jO]
  cases h2:lM y.bi.eV r with
  | none=>rfl
  | some row =>
   have fT:r∈y.bi.eV.map (·.1):=uU _ _ (by rw [h2];simp)
   have:=sH (a:=x.gQ) af fT
   rw [h.2] at this;simp at this
theorem O1 {s bu:S} {x:Rec} (h : ∀L,x.yT L→s.il L=bu.il L):s.only x.jU x.gQ=bu.only x.jU x.gQ:=by
 apply S.IQ
 intro L
 cases L with
 | inl t =>
  simp only [S.il,S.only]
  by_cases bZ:t∈x.jU
  ·have:=h (.inl t) bZ
   simp only [S.il,Sum.inl.injEq] at this
   simp [bZ,this]
  ·simp [bZ]
 | inr r =>
  simp only [S.il,S.only]
  by_cases ao:r∈x.gQ
  ·have:=h (.inr r) ao
   simp only [S.il,Sum.inr.injEq] at this
   simp [ao,this]
  ·simp [ao]
theorem Hg : ∀(l:List Rec) (i n:Nat) (s:S),fE (l.take i) (fun _=>true) n s=fE l (fun k=>decide (k<n+i)) n s
 | [],i,n,s=>by simp [fE]
 | x::l,0,n,s=>by
  simp only [List.take_zero,fE,Nat.add_zero]
  rw [if_neg (by simp)]
  have:=uV l (fun k=>decide (k<n)) (fun _=>false) (n+1) s (fun i _=>by simp;omega)
  rw [this]
  have cH : ∀(l:List Rec) (n:Nat),fE l (fun _=>false) n s=s:=by
   intro l
   induction l with
   | nil=>intro n;rfl
   | cons x l ih=>intro n;simp only [fE,Bool.false_eq_true,if_false];exact ih _
  rw [cH]
 | x::l,i+1,n,s=>by
  simp only [List.take_succ_cons,fE,if_true]
  rw [if_pos (by simp),Hg l i (n+1)]
  exact uV l _ _ (n+1) _ fun j _=>by congr 1;apply propext;omega
def p5 (l:List Bool):Nat:=l.countP (fun b=> !b)
section
variable {P:Program} {ops:Array Oper} {Q:Exit→Act→World→Prop} {g:G} {gR:S} {pi:Nat} {fq:List Rec}
theorem xX {eE:Array Bool} (d9:eE.size=ops.size) {i:Nat}:i∈Region.ready .any ops eE↔i<ops.size∧eE.getD i false=false∧ ∀R,ops[i]? = some R→ ∀e∈R.after,Region.binds .any e=true→eE.getD e.on false=true:=by
 unfold Region.ready
 rw [List.mem_filter,List.mem_range]
 constructor
 ·rintro ⟨h1,h2⟩
  simp only [Bool.and_eq_true,Bool.not_eq_true'] at h2
  have aM:i<eE.size:=by omega
  refine ⟨h1,?_,fun R al e he aT=> ?_⟩
  ·have:=h2.1
   rw [Array.getD_eq_getD_getElem?,Array.getElem?_eq_getElem aM] at this ⊢
   simpa using this
  ·have ag:=h2.2
   rw [al] at ag
   simp only [Option.map_some,Option.getD_some] at ag
   rw [Array.all_eq_true_iff_forall_mem] at ag
   have:=ag e he
   simpa [aT] using this
 ·rintro ⟨h1,h2,ag⟩
  refine ⟨h1,?_⟩
  have aM:i<eE.size:=by omega
  have al:ops[i]? = some ops[i]:=Array.getElem?_eq_getElem h1
  simp only [Bool.and_eq_true,Bool.not_eq_true']
  refine ⟨?_,?_⟩
  ·rw [Array.getD_eq_getD_getElem?,Array.getElem?_eq_getElem aM] at h2 ⊢
   simpa using h2
  ·rw [al]
   simp only [Option.map_some,Option.getD_some]
   rw [Array.all_eq_true_iff_forall_mem]
   intro e he
   cases aT:Region.binds .any e with
   | false=>rfl
   | true=>simp [ag _ al e he aT]
theorem Px (hlen:fq.length=ops.size) (vZ : ∀(i:Nat) x,fq[i]? = some x→ops[i]? = some x.R∧x.jU=kR ops x.R∧pi+i∈x.gQ ∧
 mu P g.N ops ((fE (fq.take i) (fun _=>true) 0 gR).only x.jU x.gQ) (pi+i) x.R x.eC=some x.bi∧(fE (fq.take i) (fun _=>true) 0 gR).hX (pi+i))
 (cc : ∀x∈fq,∀p∈x.bi.ey,p)
 (yU : ∀(i j:Nat) x y,i<j→fq[i]? = some x→fq[j]? = some y→lU x y=true→mG ops i j)
 (vG : ∀(i:Nat) R,ops[i]? = some R→ ∀e∈R.after,Region.binds .any e=true→e.on<i)
 (mM : ∀br cV bI,ct g (fE fq (fun _=>true) 0 gR) br cV bI→Q .normal cV bI) :
 ∀(lV:Nat) (eE:Array Bool) (av:d8) (a:Act) (w:World),eE.size=ops.size→p5 eE.toList≤lV →
  (∀i j,eE.getD j false=true→mG ops i j→eE.getD i false=true) →
  ct g (fE fq (fun i=>eE.getD i false) 0 gR) av a w→wpAny P .any ops Q lV eE a w:=by
 have Je : ∀(eE:Array Bool) (av:d8) (a:Act) (w:World),eE.size=ops.size→Region.ready .any ops eE=[] →
  ct g (fE fq (fun i=>eE.getD i false) 0 gR) av a w→Q .normal a w:=by
  intro eE av a w d9 ao h
  have jq : ∀i,i<ops.size→eE.getD i false=true:=by
   intro i
   induction i using Nat.strongRecOn with
   | _ i ih =>
    intro bj
    cases aM:eE.getD i false with
    | true=>rfl
    | false =>
     exfalso
     have:i∈Region.ready .any ops eE:=(xX d9).2 ⟨bj,aM,fun R al e he aT=>by
      have c0:=vG i R al e he aT
      exact ih e.on c0 (by omega)⟩
     rw [ao] at this;simp at this
  have e:=uV fq (fun i=>eE.getD i false) (fun _=>true) 0 gR (fun i bj=>by simpa using jq i (by omega))
  rw [e] at h
  exact mM av a w h
 have DK : ∀(eE:Array Bool) (av:d8) (a:Act) (w:World),eE.size=ops.size→(∀i j,eE.getD j false=true→mG ops i j→eE.getD i false=true) →
  ct g (fE fq (fun i=>eE.getD i false) 0 gR) av a w→ ∀i∈Region.ready .any ops eE,∀K:Act→World→Prop,
  (∀br cV bI,ct g (fE fq (fun k=>(eE.setIfInBounds i true).getD k false) 0 gR) br cV bI→K cV bI)→wpOp P ops Q i K a w:=by
  intro eE av a w d9 qv h i bj K gb
  obtain ⟨Ez,J1,J2⟩:=(xX d9).1 bj
  have qS:fq[i]? = some (fq[i]'(by omega)):=List.getElem?_eq_getElem _
  generalize fq[i]'(by omega)=x at qS
  obtain ⟨r1,r2,r0,a2,bb⟩:=vZ i x qS
  have D1 : ∀j,mG ops j i→eE.getD j false=true:=by
   intro j aS
   cases aS with
   | one al he aT l0 =>
    rw [r1] at al;simp at al;subst al
    rw [← l0];exact J2 _ r1 _ he aT
   | step al he aT l0 bA =>
    rw [r1] at al;simp at al;subst al
    have:=J2 _ r1 _ he aT
    rw [l0] at this
    exact qv _ _ this bA
  have c0 : ∀j y,fq[j]? = some y→j<i→eE.getD j false=false→lU y x=false:=by
   intro j y aF mF bQ
   cases a8:lU y x with
   | false=>rfl
   | true=>have:=D1 j (yU j i y x mF aF qS a8);rw [bQ] at this;simp at this
  have y9 : ∀j y,fq[j]? = some y→i<j→eE.getD j false=true→lU x y=false:=by
   intro j y aF tA bQ
   cases a8:lU x y with
   | false=>rfl
   | true=>have:=qv i j bQ (yU i j x y tA qS aF a8);rw [J1] at this;simp at this
  have Jz : ∀L,x.yT L→(fE (fq.take i) (fun _=>true) 0 gR).il L=(fE fq (fun i=>eE.getD i false) 0 gR).il L:=by
   intro L pj
   rw [Hg]
   refine CO L fq _ _ 0 gR gR rfl fun j y aF he=> ?_
   simp only [Nat.zero_add]
   rcases Nat.lt_trichotomy j i with mF|mF|mF
   ·cases bQ:eE.getD j false with
    | true=>simpa using mF
    | false=>exact absurd (OD (c0 j y aF mF bQ) pj) he
   ·subst mF;simpa using J1.symm
   ·cases bQ:eE.getD j false with
    | false=>simp;omega
    | true=>exact absurd (OE (y9 j y aF mF bQ) pj) he
  have ar:mu P g.N ops (fE fq (fun i=>eE.getD i false) 0 gR) (pi+i) x.R x.eC=some x.bi:=by
   rw [O1 Jz,r2] at a2
   exact CV a2
  have dI:(fE fq (fun i=>eE.getD i false) 0 gR).aL (pi+i)=none:=by
   have e1:=Jz (.inr (pi+i)) r0
   simp only [S.il,Sum.inr.injEq] at e1
   rw [← e1];exact bb _ (Nat.le_refl _)
  refine GO h dI r1 ar (cc x (List.mem_of_getElem? qS)) fun br cV bI cx=>gb br cV bI ?_
  have nN : ∀k,(eE.setIfInBounds i true).getD k false=if k=i then true else eE.getD k false:=by
   intro k
   simp only [Array.getD_eq_getD_getElem?,Array.getElem?_setIfInBounds]
   by_cases e:i=k
   ·subst e;simp [d9,Ez]
   ·rw [if_neg e,if_neg (Ne.symm e)]
  have yY:(fE fq (fun i=>eE.getD i false) 0 gR).az x.R x.bi=fE fq (fun k=>(eE.setIfInBounds i true).getD k false) 0 gR:=by
   apply S.IQ
   intro L
   rw [vy]
   cases he:jO x L with
   | none =>
    refine CO L fq _ _ 0 gR gR rfl fun j y aF wx=> ?_
    simp only [Nat.zero_add,nN]
    by_cases e:j=i
    ·subst e;rw [qS] at aF;simp at aF;subst aF;exact absurd he wx
    ·rw [if_neg e]
   | some c =>
    symm
    refine He L fq _ 0 i gR x c qS (by simp [nN]) he fun j y aF tA bQ=> ?_
    simp only [Nat.zero_add,nN] at bQ
    rw [if_neg (by omega)] at bQ
    exact OC (y9 j y aF tA bQ) (by rw [he];simp)
  rw [yY] at cx
  exact cx
 intro lV
 induction lV with
 | zero =>
  intro eE av a w d9 vT qv h
  have ao:Region.ready .any ops eE=[]:=by
   cases ao:Region.ready .any ops eE with
   | nil=>rfl
   | cons i l =>
    exfalso
    have bj:i∈Region.ready .any ops eE:=by rw [ao];simp
    obtain ⟨h1,h2,-⟩:=(xX d9).1 bj
    have h0:p5 eE.toList=0:=by omega
    unfold p5 at h0
    rw [List.countP_eq_zero] at h0
    have qL:i<eE.size:=by omega
    have:=h0 (eE[i]) (by simp)
    rw [Array.getD_eq_getD_getElem?,Array.getElem?_eq_getElem qL] at h2
    simp at h2 this
    rw [h2] at this;simp at this
  exact ⟨ao,Je eE av a w d9 ao h⟩
 | succ lV ih =>
  intro eE av a w d9 vT qv h
  refine ⟨fun ao=>Je eE av a w d9 ao h,fun i bj=> ?_⟩
  refine DK eE av a w d9 qv h i bj _ fun br cV bI cx=> ?_
  obtain ⟨h1,h2,ag⟩:=(xX d9).1 bj
  have qL:i<eE.size:=by omega
  have nN : ∀k,(eE.setIfInBounds i true).getD k false=if k=i then true else eE.getD k false:=by
   intro k
   simp only [Array.getD_eq_getD_getElem?,Array.getElem?_setIfInBounds]
   by_cases e:i=k
   ·subst e;simp [qL]
   ·rw [if_neg e,if_neg (Ne.symm e)]
  refine ih _ br cV bI (by simpa using d9) ?_ ?_ cx
  ·have bQ:eE[i]=false:=by
    rw [Array.getD_eq_getD_getElem?,Array.getElem?_eq_getElem qL] at h2;simpa using h2
   have a8:p5 (eE.setIfInBounds i true).toList+1≤p5 eE.toList:=by
    unfold p5
    rw [Array.toList_setIfInBounds]
    have key : ∀(l:List Bool) (i:Nat),l[i]? = some false→(l.set i true).countP (fun b=> !b)+1=l.countP (fun b=> !b):=by
     intro l
     induction l with
     | nil=>intro i bj;simp at bj
     | cons b l ih =>
      intro i bj
      cases i with
      | zero=>simp at bj;subst bj;simp
      | succ i =>
       simp at bj
       simp only [List.set_cons_succ,List.countP_cons]
       have:=ih i bj
       omega
    rw [key eE.toList i (by rw [Array.getElem?_toList,Array.getElem?_eq_getElem qL,bQ])]
    exact Nat.le_refl _
   omega
  ·intro k j aS J3
   rw [nN] at aS ⊢
   by_cases e:k=i
   ·rw [if_pos e]
   ·rw [if_neg e]
    by_cases e2:j=i
    ·subst e2
     cases J3 with
     | one al he aT l0=>rw [← l0];exact ag _ al _ he aT
     | step al he aT l0 bA =>
      have:=ag _ al _ he aT
      rw [l0] at this
      exact qv _ _ this bA
    ·rw [if_neg e2] at aS;exact qv k j aS J3
end
def vd (P:Program) (N:Nat) (ops:Array Oper) (draw:Bool) (ck:List (eS×Bool)) (s:S) (aI:Nat):Option (S×List Prop) :=
 if draw then
  match mo P N ops ops.toList ck s aI with
  | some (bu,fq)=>if yG fq fq (vH ops.toList []) 0 then some (bu,fq.flatMap (·.bi.ey)) else none
  | none=>none
 else mn P N ops ops.toList ck s aI
theorem Nu {P:Program} (lW:P.follows .mixedOrders=true) {g:G} {ops:Array Oper} {draw:Bool} {ck:List (eS×Bool)} {s bu:S} {aI:Nat} {aq:List Prop}
 (h:vd P g.N ops draw ck s aI=some (bu,aq)) (a5 : ∀p∈aq,p) (bQ:s.hX aI) {av:d8} {a:Act} {w:World} (ao:ct g s av a w) (id:Nat) {Q:Exit→Act→World→Prop}
 (mM : ∀br cV bI,ct g bu br cV bI→Q .normal cV bI):(Code.region id ops draw).wp P Q a w:=by
 unfold vd at h
 cases draw with
 | false =>
  simp only [Bool.false_eq_true,if_false] at h
  refine wp_region ?_
  have:=GF (Q:=Q) (i:=0) ops.toList ck s bu aI aq (fun j R al=>by simpa using al) h a5 bQ mM av a w ao
  have e:(List.range ops.toList.length).map (0 + ·)=List.range ops.size:=by simp
  rw [e] at this
  exact this
 | true =>
  simp only [if_true] at h
  split at h
  ·rename_i s2 fq vZ
   split at h
   ·rename_i yU
    simp only [Option.some.injEq,Prod.mk.injEq] at h
    obtain ⟨rfl,rfl⟩:=h
    obtain ⟨e1,e2,bp⟩:=GP ops.toList ck s s2 aI fq vZ bQ
    have D1:=HC (ops:=ops) ops.toList [] (fun i R al=>by simpa using al) (fun k i bA=>by simp at bA)
    have kK:=H2 fq (vH ops.toList []) 0 yU
    refine wp_region_any lW ?_
    refine Px (gR:=s) (pi:=aI) (fq:=fq) (by simpa using e1) (fun i x af=>by
     obtain ⟨f1,f2,f0,f3,f4⟩:=bp i x af
     exact ⟨by simpa using f1,f2,f0,f3,f4⟩) (fun x af p aj=>a5 p (by rw [List.mem_flatMap];exact ⟨x,af,aj⟩)) (fun i j x y tA af aF a8=> ?_) (fun i R al e he aT=> ?_) (fun br cV bI cx=>mM br cV bI (by rw [e2];exact cx))
     ops.size _ av a _ (by simp) ?_ ?_ ?_
    ·obtain ⟨f1,-⟩:=kK j y aF
     have cP:(fq.take (0+j))[i]? = some x:=by
      rw [List.getElem?_take,if_pos (by omega)];exact af
     have:=Hf _ 0 f1 i x cP a8
     rw [Nat.zero_add] at this
     exact D1 j i this
    ·have bj:i<fq.length:=by
      rw [e1]
      have:=(Array.getElem?_eq_some_iff.1 al).1
      simpa using this
     have af:=List.getElem?_eq_getElem bj
     obtain ⟨f1,-⟩:=bp i _ af
     have tw:ops[i]? = some (fq[i]).R:=by simpa using f1
     rw [al] at tw;simp at tw
     obtain ⟨-,f2⟩:=kK i _ af
     have:=f2 e (by rw [← tw];exact he) aT
     omega
    ·unfold p5
     have:(Array.replicate ops.size false).toList=List.replicate ops.size false:=by simp
     rw [this,List.countP_replicate];simp
    ·intro i j aS
     simp [Array.getD_eq_getD_getElem?,Array.getElem?_replicate] at aS
     split at aS<;>simp at aS
    ·have e:fE fq (fun i=>(Array.replicate ops.size false).getD i false) 0 s=s:=by
      rw [uV fq _ (fun _=>false) 0 s (fun i _=>by
       simp [Array.getD_eq_getD_getElem?,Array.getElem?_replicate]
       split<;>simp)]
      have cH : ∀(l:List Rec) (n:Nat),fE l (fun _=>false) n s=s:=by
       intro l
       induction l with
       | nil=>intro n;rfl
       | cons x l ih=>intro n;simp only [fE,Bool.false_eq_true,if_false];exact ih _
      exact cH _ _
     rw [e]
     exact ao.drew
   ·simp at h
  ·simp at h
end Go.VL
namespace Go.VL
set_option linter.unusedVariables false
set_option linter.unusedSimpArgs false
open Go
def tB:List (Nat×ax)→Nat→ax
 | [],_=> .dead
 | (u,v)::l,t=>if t=u then v else tB l t
def dy (env:List (Nat×ax)) (rows:List (List ab)):S:={E:=tB env,aL:=fun r=>rows[r]?}
theorem qg (env:List (Nat×ax)) (rows:List (List ab)):(dy env rows).hX rows.length:=by
 intro r ao
 simp [dy,ao]
def vp (row:List ab):Prop:= ∀R∈row,hn R.es
def jP (l:List Nat):e8:=fun j i=>match l[j]? with
 | some r=>some (r,i)
 | none=>none
def tC (aB:e8) (x cb:ax):Prop :=
 (cb=x∧x.ha=true)∨(∃r k bD len j i,x = .aN r k bD len∧aB j i=some (r,k)∧cb = .aN j i bD len)∨cb = .dead ∨
   ∃r c sz h j cK,x = .gm r c sz h∧(∀k,aB j (k+cK)=some (r,k+c))∧cb = .gm j cK sz h
def tD (aB:e8) (row cD:List ab):Prop :=
 cD.length=row.length∧ ∀(k:Nat) R bP,row[k]? = some R→cD[k]? = some bP→bP.sz=R.sz∧bP.b1=R.b1∧bP.es.length=R.es.length∧(∀e∈bP.es,e.length=R.sz) ∧
  ∀(j:Nat) x cb,R.es.flatten[j]? = some x→bP.es.flatten[j]? = some cb→tC aB x cb
def mv (aL:Nat→Option (List ab)) (aW:Nat→Option Nat) (aB:e8) (bs:eI→Bool):gj→List ab→Option (List ab×List Prop)
 | .pure,row=>some (row,[vp row])
 | .dr cD,row=>some (cD,[row=cD,vp cD])
 | .dO cD,row=>some (cD,[cD=row.map (kq aW)])
 | .rx cD,row=>some (cD,[tD aB row cD])
 | .drop,row=>some (row.map m1,[])
 | .box l,[R]=>match R.es with
  | [c]=>match iM (iL aL aW aB bs) l c with
   | some (cK,aq)=>some ([{R with es:=[cK]}],aq)
   | none=>none
  | _=>none
 | _,_=>none
def ob (aL:Nat→Option (List ab)) (aW:Nat→Option Nat) (aB:e8):List Nat→List gj→Option (List (List ab)×List Prop)
 | [],[]=>some ([],[])
 | r::l,c::bN=>match aL r with
  | some row=>match mv aL aW aB el c row,ob aL aW aB l bN with
   | some (cD,bt),some (T,aO)=>some (cD::T,bt++aO)
   | _,_=>none
  | none=>none
 | _,_=>none
def vI (aL:Nat→Option (List ab)) (aW:Nat→Option Nat) (aB:e8) (E:Nat→ax):List (Nat×iH)→Option (List (Nat×ax)×List Prop)
 | []=>some ([],[])
 | (t,c)::l=>match kj aL aW aB el c (E t),vI aL aW aB E l with
  | some (v,bt),some (env,aO)=>some ((t,v)::env,bt++aO)
  | _,_=>none
def vJ (aB:List Nat) (m:Nat):Bool:=(List.range m).all fun j=>aB[j]? == some j
def yH (m:Nat) (s:S) (aB:List Nat) (bN:List gj) (kz:List (Nat×iH)):Option (S×Nat×List Prop) :=
 if decide aB.Nodup && vJ aB m then
  match ob s.aL (eD aB) (jP aB) aB bN,vI s.aL (eD aB) (jP aB) s.E kz with
  | some (T,bt),some (env,aO)=>some (dy env T,T.length,bt++aO)
  | _,_=>none
 else none
section
variable {P:Program} {g:G} {s:S} {av:d8} {a:Act} {w:World}
theorem Dh (dn:fU g s av w) {aB:e8} {aW:Nat→Option Nat} {bs:eI→Bool} (H:jx s aB aW bs) {c:gj} {r:Nat} {hv:Nat→Nat} {row cD:List ab} {aq:List Prop} (dt : ∀k R,ca (some row) k=some R→s.aq r (hv k)=some R)
 (h:mv s.aL aW aB bs c row=some (cD,aq)) (a5 : ∀p∈aq,p) :
 cD.length=row.length∧ ∀(k:Nat) bP,ca (some cD) k=some bP→ ∃R,ca (some row) k=some R∧kQ s aB bs iY R bP:=by
 have hlen : ∀k R,ca (some row) k=some R→ ∀e∈R.es,e.length=R.sz:=by
  intro k R al
  have cT:s.aq r (hv k)=some R:=dt k R al
  have ee:=dn.obj r (hv k) R cT
  cases aj:av r (hv k) with
  | none=>rw [aj] at ee;simp only [hb] at ee;rw [ee];simp
  | some q=>rw [aj] at ee;obtain ⟨_,_,_,_,e,_⟩:=ee;exact e
 have n9:vp row→ ∀(k:Nat) bP,ca (some row) k=some bP→ ∃R,ca (some row) k=some R∧kQ s aB bs iY R bP:=by
  intro aj
  have jb : ∀k R,ca (some row) k=some R→R∈row:=by
   intro k R al
   unfold ca at al
   simp only at al
   split at al
   ·rename_i bP cT
    split at al
    ·simp at al
    ·simp at al;subst al;exact List.mem_of_getElem? cT
   ·simp at al
  refine fun k R al=>⟨R,al,rfl,.inl rfl,rfl,hlen k R al,fun j x cb af cP=> ?_⟩
  rw [af] at cP;simp at cP;subst cP
  obtain ⟨e,he,mD⟩:=nW af
  exact .pure (aj R (jb k R al) e he x mD) trivial
 cases c with
 | pure =>
  simp only [mv,Option.some.injEq,Prod.mk.injEq] at h
  obtain ⟨rfl,rfl⟩:=h
  exact ⟨rfl,n9 (a5 _ (by simp))⟩
 | dr cW =>
  simp only [mv,Option.some.injEq,Prod.mk.injEq] at h
  obtain ⟨rfl,rfl⟩:=h
  have e:row=cW:=a5 _ (by simp)
  subst e
  exact ⟨rfl,n9 (a5 _ (by simp))⟩
 | dO cW =>
  simp only [mv,Option.some.injEq,Prod.mk.injEq] at h
  obtain ⟨rfl,rfl⟩:=h
  have e:cW=row.map (kq aW):=a5 _ (by simp)
  subst e
  exact ⟨by simp,Jc dn H dt (fun _ _ _ _ _ _ _=>trivial)⟩
 | rx cW =>
  simp only [mv,Option.some.injEq,Prod.mk.injEq] at h
  obtain ⟨rfl,rfl⟩:=h
  obtain ⟨h1,h2⟩:tD aB row cW:=a5 _ (by simp)
  refine ⟨h1,fun k bP cT=> ?_⟩
  rw [hH] at cT
  cases qM:cW[k]? with
  | none=>rw [qM] at cT;simp at cT
  | some ig =>
   rw [qM,Option.bind_some] at cT
   split at cT
   ·simp at cT
   ·rename_i ef
    simp only [Option.some.injEq] at cT;subst cT
    have c0:k<row.length:=by have:=dT qM;omega
    have bA:=List.getElem?_eq_getElem c0
    obtain ⟨q1,q2,nn,zw,E5⟩:=h2 k _ _ bA qM
    have al:ca (some row) k=some row[k]:=by rw [hH,bA,Option.bind_some,if_neg (by rw [← q2];exact ef)]
    refine ⟨_,al,q1,.inl q2,nn,zw,fun j x cb af cP=> ?_⟩
    have ee:=dn.obj r (hv k) _ (dt k _ al)
    cases aj:av r (hv k) with
    | none=>rw [aj] at ee;simp only [hb] at ee;rw [ee] at af;simp at af
    | some ou =>
     obtain ⟨b,m⟩:=ou
     rw [aj] at ee
     obtain ⟨c,ew,f1,f2,f3,f4⟩:=ee
     obtain ⟨u,ik,ka,fc⟩:=f4 j x af
     rcases E5 j x cb af cP with ⟨rfl,bf⟩|⟨r2,kx,bD,len,zu,i2,rfl,hm,rfl⟩|rfl|⟨r2,hl,JU,h2,zu,jk,rfl,hm,rfl⟩
     ·exact .pure (fc.s9 bf) trivial
     ·exact .aN bD len hm (by cases fc<;>assumption)
     ·exact .dead _
     ·exact .gm h2 hm
 | drop =>
  simp only [mv,Option.some.injEq,Prod.mk.injEq] at h
  obtain ⟨rfl,rfl⟩:=h
  refine ⟨by simp,fun k R al=> ?_⟩
  rw [hH,List.getElem?_map] at al
  cases bA:row[k]? <;> simp [bA,m1] at al
 | box l =>
  match row,h with
  | [R],h =>
   simp only [mv] at h
   split at h
   ·rename_i c fW
    split at h
    ·rename_i cK j8 a8
     simp only [Option.some.injEq,Prod.mk.injEq] at h
     obtain ⟨rfl,rfl⟩:=h
     refine ⟨rfl,fun k p aj=> ?_⟩
     rw [j1] at aj
     split at aj
     ·rename_i oh
      obtain ⟨rfl,nP⟩:=oh
      simp only [Option.some.injEq] at aj;subst aj
      have h0:ca (some [R]) 0=some R:=by rw [j1];simpa using nP
      refine ⟨R,h0,?_⟩
      have cT:s.aq r (hv 0)=some R:=dt 0 R h0
      have ee:=dn.obj r (hv 0) R cT
      cases hP:av r (hv 0) with
      | none=>rw [hP] at ee;simp only [hb] at ee;rw [fW] at ee;simp at ee
      | some q =>
       obtain ⟨b,m⟩:=q
       rw [hP] at ee
       obtain ⟨b7,ew,g1,g2,g3,g4⟩:=ee
       have D0:c.length=R.sz:=g3 c (by rw [fW];simp)
       have hp:R.es.flatten=c:=by rw [fW];simp
       obtain ⟨e1,e2⟩:=vb (vs:=(List.range c.length).map fun j=>(b7[j]?).getD undef) dn H (o4 _) a8 a5 (fun _ _=>trivial) (by simp) (by
        intro j y u aF hu
        have aS:=dT aF
        rw [List.getElem?_map,List.getElem?_range aS] at hu
        simp only [Option.map_some,Option.some.injEq] at hu
        obtain ⟨l6,ik,-,fc⟩:=g4 j y (by rw [hp];exact aF)
        rw [ik] at hu;simp at hu;subst hu
        exact fc)
       refine ⟨rfl,.inl rfl,by simp [fW],by simp;omega,fun j x cb af cP=> ?_⟩
       rw [hp] at af
       simp only [List.flatten_cons,List.flatten_nil,List.append_nil] at cP
       exact e2 j x cb af cP
     ·simp at aj
    ·simp at h
   ·simp at h
  | [],h=>simp [mv] at h
  | _::_::_,h=>simp [mv] at h
theorem Di (dn:fU g s av w) {aB:e8} {aW:Nat→Option Nat} (H:jx s aB aW el) : ∀(l:List Nat) (bN:List gj) (T:List (List ab)) (aq:List Prop),
 ob s.aL aW aB l bN=some (T,aq)→(∀p∈aq,p)→T.length=l.length∧ ∀(j:Nat) cD r,T[j]? = some cD→l[j]? = some r→ ∃row,s.aL r=some row∧cD.length=row.length ∧
  ∀(k:Nat) bP,ca (some cD) k=some bP→ ∃R,ca (some row) k=some R∧kQ s aB el iY R bP
 | [],[],T,aq,h,_=>by
  simp [ob] at h;obtain ⟨rfl,rfl⟩:=h
  exact ⟨rfl,fun j cD r aS=>by simp at aS⟩
 | r::l,c::bN,T,aq,h,a5=>by
  simp only [ob] at h
  split at h
  ·rename_i row dt
   split at h
   ·rename_i dE bt jT aO h1 h2
    simp only [Option.some.injEq,Prod.mk.injEq] at h
    obtain ⟨rfl,rfl⟩:=h
    obtain ⟨e1,e2⟩:=Di dn H l bN jT aO h2 (fun p aj=>a5 p (by simp [aj]))
    have f2:=Dh (hv:=id) dn H (fun k R al=>by unfold S.aq;rw [dt];exact al) h1 (fun p aj=>a5 p (by simp [aj]))
    refine ⟨by simp [e1],fun j cD q aS aR=> ?_⟩
    cases j with
    | zero=>simp at aS aR;subst aS;subst aR;exact ⟨row,dt,f2.1,f2.2⟩
    | succ j=>simp at aS aR;exact e2 j cD q aS aR
   ·simp at h
  ·simp at h
 | [],_::_,_,_,h,_=>by simp [ob] at h
 | _::_,[],_,_,h,_=>by simp [ob] at h
theorem H3 (h:ct g s av a w) {aB:e8} {aW:Nat→Option Nat} (H:jx s aB aW el) : ∀(l:List (Nat×iH)) (env:List (Nat×ax)) (aq:List Prop),
 vI s.aL aW aB s.E l=some (env,aq)→(∀p∈aq,p)→ ∀t,fJ s aB el iY (s.E t) (tB env t)
 | [],env,aq,ao,_=>by
  simp [vI] at ao;obtain ⟨rfl,rfl⟩:=ao
  intro t;exact .dead _
 | (u,c)::l,env,aq,ao,a5=>by
  simp only [vI] at ao
  split at ao
  ·rename_i v bt D2 aO h1 h2
   simp only [Option.some.injEq,Prod.mk.injEq] at ao
   obtain ⟨rfl,rfl⟩:=ao
   have ih:=H3 h H l D2 aO h2 (fun p aj=>a5 p (by simp [aj]))
   intro t
   unfold tB
   split
   ·rename_i e;subst e
    exact vh h.tofU H (o4 _) h1 (fun p aj=>a5 p (by simp [aj])) trivial (h.env t)
   ·exact ih t
  ·simp at ao
theorem qn {l:List Nat} {j i r k:Nat}:jP l j i=some (r,k)↔l[j]? = some r∧i=k:=by
 unfold jP
 cases l[j]? <;> simp
theorem yI {aB:List Nat} (bf:aB.Nodup):jx s (jP aB) (eD aB) el :=
 ⟨fun _ _ h _=>qn.2 ⟨G7 h,rfl⟩,fun _ ao _ _ _ _ _ _ hm=>by rw [G8 bf (qn.1 hm).1] at ao;simp at ao⟩
theorem IR {aB:List Nat} (hnd:aB.Nodup) {T:List (List ab)} (e1:T.length=aB.length) (e2 : ∀(j:Nat) cD r,T[j]? = some cD→aB[j]? = some r→ ∃row,s.aL r=some row∧cD.length=row.length ∧
 ∀(k:Nat) bP,ca (some cD) k=some bP→ ∃R,ca (some row) k=some R∧kQ s (jP aB) el iY R bP):l2 s (jP aB) el iY (fun j=>T[j]?):=by
 refine ⟨?_,?_,?_⟩
 ·intro j i g5 h8 p e eJ
  obtain ⟨r,k⟩:=p
  obtain ⟨fC,rfl⟩:=qn.1 e
  obtain ⟨hk,rfl⟩:=qn.1 eJ
  exact ⟨(List.getElem?_inj (dT fC) hnd).1 (fC.trans hk.symm),rfl⟩
 ·intro j i bP cT
  have cT:ca (T[j]?) i=some bP:=cT
  cases aS:T[j]? with
  | none=>rw [aS] at cT;simp [ca] at cT
  | some cD =>
   rw [aS] at cT
   have c0:j<aB.length:=by have:=dT aS;omega
   have aR:=List.getElem?_eq_getElem c0
   obtain ⟨row,f1,-,f2⟩:=e2 j cD _ aS aR
   obtain ⟨R,g1,g2⟩:=f2 i bP cT
   exact ⟨_,i,R,qn.2 ⟨aR,rfl⟩,by unfold S.aq;rw [f1];exact g1,g2⟩
 ·intro j i r k e hu
  obtain ⟨fC,rfl⟩:=qn.1 e
  have c0:j<T.length:=by have:=dT fC;omega
  obtain ⟨row,f1,f2,-⟩:=e2 j _ r (List.getElem?_eq_getElem c0) fC
  show i<((T[j]?).getD []).length
  rw [List.getElem?_eq_getElem c0]
  show i<T[j].length
  rw [f2]
  simpa [S.aP,f1] using hu
theorem H4 {aB:List Nat} {g:G} (dn:fU g s av w) (nb:vJ aB g.m=true) : ∀j k,g.lf j k→jP aB j k=some (j,k):=by
 intro j k aS
 unfold vJ at nb
 have:=List.all_eq_true.1 nb j (List.mem_range.2 (dn.low j k aS))
 exact qn.2 ⟨by simpa using this,rfl⟩
theorem Qk (h:ct g s av a w) {aB:List Nat} {bN:List gj} {kz:List (Nat×iH)} {bu:S} {n:Nat} {aq:List Prop} (ao:yH g.m s aB bN kz=some (bu,n,aq)) (a5 : ∀p∈aq,p) :
 bu.hX n∧ct g bu (hf av (jP aB)) a w:=by
 unfold yH at ao
 split at ao
 ·rename_i a8
  simp only [Bool.and_eq_true,decide_eq_true_eq] at a8
  obtain ⟨hnd,nb⟩:=a8
  split at ao
  ·rename_i T bt env aO h1 h2
   simp only [Option.some.injEq,Prod.mk.injEq] at ao
   obtain ⟨rfl,rfl,rfl⟩:=ao
   refine ⟨qg _ _,?_⟩
   obtain ⟨e1,e2⟩:=Di h.tofU (yI hnd) aB bN T bt h1 (fun p aj=>a5 p (by simp [aj]))
   refine h.Is (aB:=jP aB) (q:=iY) (IR hnd e1 e2) (H3 h (yI hnd) kz env aO h2 (fun p aj=>a5 p (by simp [aj]))) (H4 h.tofU nb)
  ·simp at ao
 ·simp at ao
def ji (l:List j5):e8:=fun j i=>match l[j]? with
 | some c8=>if i<c8.a0.length then c8.a0[i]? else (match c8.hi with
  | some (r,n)=>some (r,i-c8.a0.length+n)
  | none=>none)
 | none=>none
def qF (n:Nat):List j5→Nat→Option Nat
 | [],_=>none
 | c8::l,r=>if c8={a0:=[],hi:=some (r,0)} then some n else qF (n+1) l r
def oW (r k:Nat) (c8:j5):Bool:=c8.a0.contains (r,k) || (match c8.hi with|some (q,n)=>q == r && decide (n≤k)|none=>false)
def Dw (c8:j5):Bool:=decide c8.a0.Nodup && c8.a0.all fun p=>match c8.hi with|some (q,n)=> !(q == p.1 && decide (n≤p.2))|none=>true
def yb (a b:j5):Bool:=(a.a0.all fun p=> !oW p.1 p.2 b) && (b.a0.all fun p=> !oW p.1 p.2 a) && (match a.hi,b.hi with|some (q,_),some (fS,_)=> !(q == fS)|_,_=>true)
def vz:List j5→Bool
 | []=>true
 | a::l=>Dw a && l.all (yb a) && vz l
def IU (l:List j5) (m:Nat):Bool:=(List.range m).all fun j=>l[j]? == some {a0:=[],hi:=some (j,0)}
def qw (aL:Nat→Option (List ab)) (aW:Nat→Option Nat) (aB:e8):List (Nat×Nat)→List gj→Option (List ab×List Prop)
 | [],[]=>some ([],[])
 | (r,k)::l,c::bN=>match ca (aL r) k with
  | some R=>match mv aL aW aB ie c [R],qw aL aW aB l bN with
   | some ([bP],bt),some (T,aO)=>some (bP::T,bt++aO)
   | _,_=>none
  | none=>none
 | _,_=>none
def tb (aL:Nat→Option (List ab)) (aW:Nat→Option Nat) (aB:e8):Option (Nat×Nat)→Option gj→Option (List ab×List Prop)
 | none,none=>some ([],[])
 | some (r,n),some c=>match aL r with
  | some row=>mv aL aW aB ie c (row.drop n)
  | none=>none
 | _,_=>none
def qx (aL:Nat→Option (List ab)) (aW:Nat→Option Nat) (aB:e8):List j5→List (List gj×Option gj)→Option (List (List ab)×List Prop)
 | [],[]=>some ([],[])
 | c8::l,(E6,Kx)::bN=>match qw aL aW aB c8.a0 E6,tb aL aW aB c8.hi Kx,qx aL aW aB l bN with
  | some (a,bt),some (b,aO),some (T,dZ)=>some ((a++b)::T,bt++aO++dZ)
  | _,_,_=>none
 | _,_=>none
def vA (aL:Nat→Option (List ab)) (aW:Nat→Option Nat) (aB:e8) (E:Nat→ax):List (Nat×iH)→Option (List (Nat×ax)×List Prop)
 | []=>some ([],[])
 | (t,c)::l=>match kj aL aW aB ie c (E t),vA aL aW aB E l with
  | some (v,bt),some (env,aO)=>some ((t,v)::env,bt++aO)
  | _,_=>none
def yx (m:Nat) (s:S) (l:List j5) (bN:List (List gj×Option gj)) (kz:List (Nat×iH)):Option (S×Nat×List Prop) :=
 if vz l && IU l m then
  match qx s.aL (qF 0 l) (ji l) l bN,vA s.aL (qF 0 l) (ji l) s.E kz with
  | some (T,bt),some (env,aO)=>some (dy env T,T.length,bt++aO)
  | _,_=>none
 else none
theorem Dx {l:List j5} {j i r k:Nat} (h:ji l j i=some (r,k)) : ∃c8,l[j]? = some c8∧oW r k c8=true∧(if i<c8.a0.length then c8.a0[i]? = some (r,k) else ∃n,c8.hi=some (r,n)∧k=i-c8.a0.length+n):=by
 unfold ji at h
 cases aS:l[j]? with
 | none=>rw [aS] at h;simp at h
 | some c8 =>
  rw [aS] at h
  simp only at h
  refine ⟨c8,rfl,?_⟩
  split at h
  ·rename_i c0
   rw [if_pos c0]
   exact ⟨by unfold oW;simp [List.mem_of_getElem? h],h⟩
  ·rename_i c0
   rw [if_neg c0]
   split at h
   ·rename_i dj n bZ
    simp only [Option.some.injEq,Prod.mk.injEq] at h
    obtain ⟨rfl,rfl⟩:=h
    exact ⟨by unfold oW;simp [bZ],n,bZ,rfl⟩
   ·simp at h
theorem HD : ∀ {l:List j5},vz l=true→(∀(j:Nat) a,l[j]? = some a→Dw a=true)∧ ∀(i j:Nat) a b,i<j→l[i]? = some a→l[j]? = some b→yb a b=true
 | [],_=>⟨fun j a h=>by simp at h,fun i j a b _ h=>by simp at h⟩
 | c::l,h=>by
  simp only [vz,Bool.and_eq_true] at h
  obtain ⟨⟨h1,h2⟩,ag⟩:=h
  obtain ⟨e1,e2⟩:=HD ag
  refine ⟨fun j a aS=> ?_,fun i j a b tA bH aT=> ?_⟩
  ·cases j with
   | zero=>simp at aS;subst aS;exact h1
   | succ j=>exact e1 j a (by simpa using aS)
  ·cases j with
   | zero=>omega
   | succ j =>
    simp at aT
    cases i with
    | zero=>simp at bH;subst bH;exact List.all_eq_true.1 h2 b (List.mem_of_getElem? aT)
    | succ i=>exact e2 i j a b (by omega) (by simpa using bH) aT
theorem GQ {a b:j5} {r k:Nat} (h:yb a b=true) (bH:oW r k a=true) (aT:oW r k b=true):False:=by
 simp only [yb,Bool.and_eq_true,List.all_eq_true] at h
 obtain ⟨⟨h1,h2⟩,ag⟩:=h
 have St:=bH
 have m9:=aT
 simp only [oW,Bool.or_eq_true,List.contains_iff_mem] at bH aT
 rcases bH with bH|bH
 ·have:=h1 _ bH;simp [m9] at this
 ·rcases aT with aT|aT
  ·have:=h2 _ aT;simp [St] at this
  ·cases e1:a.hi with
   | none=>rw [e1] at bH;simp at bH
   | some p =>
    obtain ⟨q,n⟩:=p
    cases e2:b.hi with
    | none=>rw [e2] at aT;simp at aT
    | some ig =>
     obtain ⟨fS,kU⟩:=ig
     rw [e1] at bH;rw [e2] at aT;rw [e1,e2] at ag
     simp at bH aT ag
     exact ag (bH.1.trans aT.1.symm)
theorem QI {l:List j5} (aM:vz l=true) : ∀j i g5 h8 p,ji l j i=some p→ji l g5 h8=some p→j=g5∧i=h8:=by
 intro j i g5 h8 p h cx
 obtain ⟨r,k⟩:=p
 obtain ⟨c8,fC,hk,dR⟩:=Dx h
 obtain ⟨za,iI,iZ,pk⟩:=Dx cx
 obtain ⟨e1,e2⟩:=HD aM
 have aS:j=g5:=by
  rcases Nat.lt_trichotomy j g5 with e|e|e
  ·exact (GQ (e2 j g5 c8 za e fC iI) hk iZ).elim
  ·exact e
  ·exact (GQ (e2 g5 j za c8 e iI fC) iZ hk).elim
 subst aS
 rw [fC] at iI;simp at iI;subst iI
 refine ⟨rfl,?_⟩
 have h1:=e1 j c8 fC
 simp only [Dw,Bool.and_eq_true,decide_eq_true_eq,List.all_eq_true] at h1
 obtain ⟨n1,n2⟩:=h1
 split at dR<;>split at pk
 ·exact (List.getElem?_inj (by assumption) n1).1 (dR.trans pk.symm)
 ·obtain ⟨n,t1,t2⟩:=pk
  have:=n2 _ (List.mem_of_getElem? dR)
  rw [t1] at this;simp at this;omega
 ·obtain ⟨n,t1,t2⟩:=dR
  have:=n2 _ (List.mem_of_getElem? pk)
  rw [t1] at this;simp at this;omega
 ·obtain ⟨n,t1,t2⟩:=dR
  obtain ⟨kU,J4,UE⟩:=pk
  rw [t1] at J4;simp at J4;omega
theorem HE : ∀ {l:List j5} {n r j:Nat},qF n l r=some j→n≤j∧l[j-n]? = some {a0:=[],hi:=some (r,0)}
 | [],_,_,_,h=>by simp [qF] at h
 | c8::l,n,r,j,h=>by
  simp only [qF] at h
  split at h
  ·rename_i e;simp at h;subst h;exact ⟨Nat.le_refl _,by simp [e]⟩
  ·obtain ⟨h1,h2⟩:=HE h
   exact ⟨by omega,by rw [show j-n=(j-(n+1))+1 by omega,List.getElem?_cons_succ];exact h2⟩
theorem JA (l:List j5):jx s (ji l) (qF 0 l) ie:=by
 refine ⟨fun r j aS k=> ?_,fun _ _ _ _ _ bH=>by simp [ie] at bH⟩
 obtain ⟨-,h2⟩:=HE aS
 simp only [ji,show l[j]? = some {a0:=[],hi:=some (r,0)} by simpa using h2]
 simp
theorem H5 (dn:fU g s av w) {aB:e8} {aW:Nat→Option Nat} (H:jx s aB aW ie) : ∀(l:List (Nat×Nat)) (bN:List gj) (T:List ab) (aq:List Prop),
 qw s.aL aW aB l bN=some (T,aq)→(∀p∈aq,p)→T.length=l.length∧ ∀(i:Nat) bP,ca (some T) i=some bP→ ∃r k R,l[i]? = some (r,k)∧s.aq r k=some R∧kQ s aB ie iY R bP
 | [],[],T,aq,h,_=>by
  simp [qw] at h;obtain ⟨rfl,rfl⟩:=h
  exact ⟨rfl,fun i bP al=>by simp [ca] at al⟩
 | (r,k)::l,c::bN,T,aq,h,a5=>by
  simp only [qw] at h
  split at h
  ·rename_i R al
   split at h
   ·rename_i p bt jT aO h1 h2
    simp only [Option.some.injEq,Prod.mk.injEq] at h
    obtain ⟨rfl,rfl⟩:=h
    obtain ⟨e1,e2⟩:=H5 dn H l bN jT aO h2 (fun p aj=>a5 p (by simp [aj]))
    have iV : ∀cF bP,ca (some [R]) cF=some bP→bP=R:=fun cF bP bA=>by
     rw [j1] at bA;split at bA
     ·simp at bA;exact bA.symm
     ·simp at bA
    have cT:s.aq r k=some R:=al
    obtain ⟨f0,f1⟩:=Dh (r:=r) (hv:=fun _=>k) dn H (fun cF bP bA=>by rw [iV cF bP bA];exact cT) h1 (fun p aj=>a5 p (by simp [aj]))
    refine ⟨by simp [e1],fun i bP bj=> ?_⟩
    cases i with
    | zero =>
     have bj:ca (some [p]) 0=some bP:=by rw [hH] at bj ⊢;simpa using bj
     obtain ⟨aO,g1,g2⟩:=f1 0 bP bj
     rw [iV 0 aO g1] at g2
     exact ⟨r,k,R,rfl,cT,g2⟩
    | succ i =>
     have bj:ca (some jT) i=some bP:=by rw [hH] at bj ⊢;simpa using bj
     obtain ⟨dj,cF,aO,g1,g2,g3⟩:=e2 i bP bj
     exact ⟨dj,cF,aO,by simpa using g1,g2,g3⟩
   ·simp at h
  ·simp at h
 | [],_::_,_,_,h,_=>by simp [qw] at h
 | _::_,[],_,_,h,_=>by simp [qw] at h
theorem Ql (dn:fU g s av w) {aB:e8} {aW:Nat→Option Nat} (H:jx s aB aW ie) {hi:Option (Nat×Nat)} {bN:Option gj} {T:List ab} {aq:List Prop}
 (h:tb s.aL aW aB hi bN=some (T,aq)) (a5 : ∀p∈aq,p):(∀r n k,hi=some (r,n)→s.aP r (k+n)→k<T.length) ∧
   ∀(i:Nat) bP,ca (some T) i=some bP→ ∃r n R,hi=some (r,n)∧s.aq r (i+n)=some R∧kQ s aB ie iY R bP:=by
 cases hi with
 | none =>
  cases bN with
  | none =>
   simp [tb] at h;obtain ⟨rfl,rfl⟩:=h
   exact ⟨fun r n k e=>by simp at e,fun i bP al=>by simp [ca] at al⟩
  | some c=>simp [tb] at h
 | some p =>
  obtain ⟨r,n⟩:=p
  cases bN with
  | none=>simp [tb] at h
  | some c =>
   simp only [tb] at h
   split at h
   ·rename_i row dt
    have a0 : ∀k R,ca (some (row.drop n)) k=some R→s.aq r (k+n)=some R:=fun k R al=>by
     unfold S.aq;rw [dt,hH];rw [hH,List.getElem?_drop] at al;rw [Nat.add_comm];exact al
    obtain ⟨f0,f1⟩:=Dh (r:=r) (hv:=fun k=>k+n) dn H a0 h a5
    refine ⟨fun dj kU k e bA=> ?_,fun i bP al=> ?_⟩
    ·simp only [Option.some.injEq,Prod.mk.injEq] at e
     obtain ⟨rfl,rfl⟩:=e
     rw [f0,List.length_drop]
     simp [S.aP,dt] at bA
     omega
    ·obtain ⟨R,g1,g2⟩:=f1 i bP al
     exact ⟨r,n,R,rfl,a0 i R g1,g2⟩
   ·simp at h
theorem OG {a b:List ab} {i:Nat}:ca (some (a++b)) i=if i<a.length then ca (some a) i else ca (some b) (i-a.length):=by
 rw [hH,hH,hH,List.getElem?_append]
 split<;>rfl
theorem H6 (dn:fU g s av w) {aB:e8} {aW:Nat→Option Nat} (H:jx s aB aW ie) : ∀(l:List j5) (bN:List (List gj×Option gj)) (T:List (List ab)) (aq:List Prop),
 qx s.aL aW aB l bN=some (T,aq)→(∀p∈aq,p)→T.length=l.length∧ ∀(j:Nat) cD c8,T[j]? = some cD→l[j]? = some c8 →
  (c8.a0.length≤cD.length)∧(∀r n k,c8.hi=some (r,n)→s.aP r (k+n)→k+c8.a0.length<cD.length) ∧
  ∀(i:Nat) bP,ca (some cD) i=some bP→ ∃r k R,(if i<c8.a0.length then c8.a0[i]? = some (r,k) else ∃n,c8.hi=some (r,n)∧k=i-c8.a0.length+n)∧s.aq r k=some R∧kQ s aB ie iY R bP
 | [],[],T,aq,h,_=>by
  simp [qx] at h;obtain ⟨rfl,rfl⟩:=h
  exact ⟨rfl,fun j cD c8 aS=>by simp at aS⟩
 | c8::l,(E6,Kx)::bN,T,aq,h,a5=>by
  simp only [qx] at h
  split at h
  ·rename_i a bt b aO jT dZ h1 h2 ag
   simp only [Option.some.injEq,Prod.mk.injEq] at h
   obtain ⟨rfl,rfl⟩:=h
   obtain ⟨e1,e2⟩:=H6 dn H l bN jT dZ ag (fun p aj=>a5 p (by simp [aj]))
   obtain ⟨f1,f2⟩:=H5 dn H c8.a0 E6 a bt h1 (fun p aj=>a5 p (by simp [aj]))
   obtain ⟨g1,g2⟩:=Ql dn H h2 (fun p aj=>a5 p (by simp [aj]))
   refine ⟨by simp [e1],fun j cD za aS tE=> ?_⟩
   cases j with
   | zero =>
    simp at aS tE;subst aS;subst tE
    refine ⟨by simp [f1],fun r n k e bA=> ?_,fun i bP al=> ?_⟩
    ·have:=g1 r n k e bA
     simp [f1];omega
    ·rw [OG,f1] at al
     split at al
     ·rename_i c0
      obtain ⟨r,k,R,q1,q2,nn⟩:=f2 i bP al
      exact ⟨r,k,R,by rw [if_pos c0];exact q1,q2,nn⟩
     ·rename_i c0
      obtain ⟨r,n,R,q1,q2,nn⟩:=g2 _ bP al
      exact ⟨r,_,R,by rw [if_neg c0];exact ⟨n,q1,rfl⟩,q2,nn⟩
   | succ j=>simp at aS tE;exact e2 j cD za aS tE
  ·simp at h
 | [],_::_,_,_,h,_=>by simp [qx] at h
 | _::_,[],_,_,h,_=>by simp [qx] at h
theorem HF (h:ct g s av a w) {aB:e8} {aW:Nat→Option Nat} (H:jx s aB aW ie) : ∀(l:List (Nat×iH)) (env:List (Nat×ax)) (aq:List Prop),
 vA s.aL aW aB s.E l=some (env,aq)→(∀p∈aq,p)→ ∀t,fJ s aB ie iY (s.E t) (tB env t)
 | [],env,aq,ao,_=>by
  simp [vA] at ao;obtain ⟨rfl,rfl⟩:=ao
  intro t;exact .dead _
 | (u,c)::l,env,aq,ao,a5=>by
  simp only [vA] at ao
  split at ao
  ·rename_i v bt D2 aO h1 h2
   simp only [Option.some.injEq,Prod.mk.injEq] at ao
   obtain ⟨rfl,rfl⟩:=ao
   have ih:=HF h H l D2 aO h2 (fun p aj=>a5 p (by simp [aj]))
   intro t
   unfold tB
   split
   ·rename_i e;subst e
    exact vh h.tofU H (o4 _) h1 (fun p aj=>a5 p (by simp [aj])) trivial (h.env t)
   ·exact ih t
  ·simp at ao
theorem fJ.wide {aB:e8} {bs J5:eI→Bool} {q:ax→Prop} (h : ∀k,bs k=true→J5 k=true) {x cb:ax} (cy:fJ s aB bs q x cb):fJ s aB J5 q x cb:=by
 induction cy with
 | dead x=>exact .dead x
 | pure aj aR=>exact .pure aj aR
 | eQ sz=>exact .eQ sz
 | f9 sz=>exact .f9 sz
 | yD sz=>exact .yD sz
 | dH h ih=>exact .dH ih
 | ref i off hm hu=>exact .ref i off hm hu
 | aN bD len hm hu=>exact .aN bD len hm hu
 | jF r c sz=>exact .jF r c sz
 | km h ih=>exact .km ih
 | gm h hm=>exact .gm h hm
 | eG i off al bH ao eR aj hle aM dY ih=>exact .eG i off al (h _ bH) ao eR aj hle aM ih
 | isl al bH ao iW aj hle aM dY ih=>exact .isl al (h _ bH) ao iW aj hle aM ih
 | agg aM dY ih=>exact .agg aM ih
 | cz aM dY ih=>exact .cz aM ih
 | fn aM dY ih=>exact .fn aM ih
theorem Py (h:ct g s av a w) {l:List j5} {bN:List (List gj×Option gj)} {kz:List (Nat×iH)} {bu:S} {n:Nat} {aq:List Prop} (ao:yx g.m s l bN kz=some (bu,n,aq)) (a5 : ∀p∈aq,p) :
 bu.hX n∧ct g bu (hf av (ji l)) a w:=by
 unfold yx at ao
 split at ao
 ·rename_i a8
  simp only [Bool.and_eq_true] at a8
  obtain ⟨kK,nb⟩:=a8
  split at ao
  ·rename_i T bt env aO h1 h2
   simp only [Option.some.injEq,Prod.mk.injEq] at ao
   obtain ⟨rfl,rfl,rfl⟩:=ao
   refine ⟨qg _ _,?_⟩
   obtain ⟨e1,e2⟩:=H6 h.tofU (JA l) l bN T bt h1 (fun p aj=>a5 p (by simp [aj]))
   have dz:=HF h (JA l) kz env aO h2 (fun p aj=>a5 p (by simp [aj]))
   refine h.Is (aB:=ji l) (q:=iY) ⟨QI kK,?_,?_⟩ (fun t=>(dz t).wide fun _ bH=>by simp [ie] at bH) ?_
   ·intro j i bP cT
    have cT:ca (T[j]?) i=some bP:=cT
    cases aS:T[j]? with
    | none=>rw [aS] at cT;simp [ca] at cT
    | some cD =>
     rw [aS] at cT
     have c0:j<l.length:=by have:=dT aS;omega
     have aR:=List.getElem?_eq_getElem c0
     obtain ⟨r,k,R,g1,g2,g3⟩:=(e2 j cD _ aS aR).2.2 i bP cT
     refine ⟨r,k,R,?_,g2,⟨g3.sz,g3.b1,g3.len,g3.each,fun j x cb af cP=>(g3.at_ j x cb af cP).wide fun _ bH=>by simp [ie] at bH⟩⟩
     simp only [ji,aR]
     split at g1
     ·rename_i aM;rw [if_pos aM];exact g1
     ·rename_i aM;rw [if_neg aM];obtain ⟨n,t1,t2⟩:=g1;rw [t1,t2]
   ·intro j i r k e hu
    obtain ⟨c8,fC,hk,dR⟩:=Dx e
    have c0:j<T.length:=by have:=dT fC;omega
    obtain ⟨iI,iZ,-⟩:=e2 j _ c8 (List.getElem?_eq_getElem c0) fC
    show i<((T[j]?).getD []).length
    rw [List.getElem?_eq_getElem c0]
    show i<T[j].length
    split at dR
    ·omega
    ·rename_i aM
     obtain ⟨n,t1,t2⟩:=dR
     have:=iZ r n (i-c8.a0.length) t1 (by rw [← t2];exact hu)
     omega
   ·intro j k aS
    unfold IU at nb
    have:=List.all_eq_true.1 nb j (List.mem_range.2 (h.low j k aS))
    simp only [beq_iff_eq] at this
    simp only [ji,this]
    simp
  ·simp at ao
 ·simp at ao
theorem ct.tj (h:ct g s av a w) {aI t sz:Nat} (dI:s.aL aI=none) (bZ:s.E t = .eQ) :
 ∃br,ct g {E:=fun u=>if u=t then .aN aI 0 0 0 else s.E u,aL:=(s.setRow aI [⟨sz,[],.live⟩]).aL} br a w:=by
 let s2:=s.setRow aI [⟨sz,[],.live⟩]
 let br:d8:=fun q k=>if q=aI then none else av q k
 have eR : ∀q k,s.aP q k→q≠aI:=by
  rintro q k aR rfl;exact sa dI k aR
 have cv : ∀q,q≠aI→s2.aL q=s.aL q:=fun q aR=>by simp [s2,S.setRow,aR]
 have EA:s2.aL aI=some [⟨sz,[],.live⟩]:=by simp [s2,S.setRow]
 have DW : ∀k R,s2.aq aI k=some R→R=⟨sz,[],.live⟩∧k=0:=by
  intro k R al
  unfold S.aq at al
  rw [EA,j1] at al
  split at al
  ·rename_i e;simp at al;exact ⟨al.symm,e.1⟩
  ·simp at al
 have a5 : ∀q k,q≠aI→s2.aq q k=s.aq q k:=fun q k aR=>by unfold S.aq;rw [cv q aR]
 have js : ∀q k,q≠aI→s2.aX br q k=s.aX av q k:=fun q k aR=>by simp [S.aX,a5 q k aR,br,aR]
 have dq:Step g s av w s2 br w:=⟨fun q k aR=>by unfold S.aP;rw [cv q (eR q k aR)];exact aR,fun q k aR=> .inl (js q k (eR q k aR)),fun b aM=>by
  obtain ⟨q,k,R,m,h1,h2,ag⟩:=aM
  by_cases e:q=aI
  ·subst e;simp [br] at ag
  ·rw [a5 q k e] at h1
   simp only [br,if_neg e] at ag
   exact .inl ⟨q,k,R,m,h1,h2,ag⟩,fun _ _ _=>rfl,Nat.le_refl _⟩
 have dn:fU g s2 br w:=by
  refine ⟨?_,?_,?_,h.fV,h.mlt,h.kn,?_,h.low⟩
  ·intro q k R al
   by_cases e:q=aI
   ·subst e
    obtain ⟨rfl,-⟩:=DW k R al
    simp [br,hb]
   ·rw [a5 q k e] at al
    have:=dq.obj (fun b m _=>rfl) (h.obj q k R al)
    simpa [br,e] using this
  ·intro q k R fS cF bP b m dQ h1 h2 ag ap
   have e:q≠aI:=by rintro rfl;simp [br] at ag
   have eJ:fS≠aI:=by rintro rfl;simp [br] at ap
   rw [a5 q k e] at h1
   rw [a5 fS cF eJ] at h2
   simp only [br,if_neg e] at ag
   simp only [br,if_neg eJ] at ap
   exact h.inj q k R fS cF bP b m dQ h1 h2 ag ap
  ·intro q k R b m h1 h2
   have e:q≠aI:=by rintro rfl;simp [br] at h2
   rw [a5 q k e] at h1
   simp only [br,if_neg e] at h2
   exact h.own q k R b m h1 h2
  ·intro j k aS
   obtain ⟨e1,e2⟩:=h.stay j k aS
   refine ⟨by unfold S.aP;rw [cv j (eR j k e1)];exact e1,?_⟩
   rw [js j k (eR j k e1)];exact e2
 refine ⟨br,?_⟩
 have tx:fU g {E:=fun u=>if u=t then .aN aI 0 0 0 else s.E u,aL:=s2.aL} br w:=dn.congr rfl
 refine {tofU:=tx,env:=fun u=> ?_,defers:=h.defers,hO:=h.hO}
 have mB:=dq.rel (h.env u)
 have e1 : ∀rf:S,rf.aL=s2.aL→Rel w (s2.ok g br w) s2.aP (s2.aX br)=Rel w (rf.ok g br w) rf.aP (rf.aX br):=fun rf e=>by
  rw [vg e,sM e,sN e]
 refine Eq.mp (congrFun (congrFun (e1 {E:=fun u=>if u=t then .aN aI 0 0 0 else s.E u,aL:=s2.aL} rfl) _) _) ?_
 show Rel _ _ _ _ (if u=t then .aN aI 0 0 0 else s.E u) _
 split
 ·rename_i e;subst e
  have h0:=h.env u
  rw [bZ] at h0
  rw [h0.mj]
  have bf:s2.aX br aI 0=some (sz,none):=by
   unfold S.aX S.aq
   rw [EA,j1];simp [br]
  exact .kX (by simp [S.aP,EA]) bf
 ·exact mB
end
end Go.VL
namespace Go.VL
set_option linter.unusedVariables false
set_option linter.unusedSimpArgs false
open Go
def gM (P:Program) (N m:Nat) (c:Code) (e:Exit) (s bu:S):Prop :=
 ∀(g:G) av a w,g.N=N→g.m=m→ct g s av a w→c.wp P (fun eJ cV bI=>eJ=e∧ ∃br,ct g bu br cV bI) a w
inductive rh where
 | normal
 | exit (id:Nat)
 | ret
def rh.x:rh→Exit
 | .normal=> .normal
 | .exit id=> .exit id
 | .ret=> .ret
inductive bE where
 | J (ck:List (eS×Bool))
 | ah (b:Bool)
 | a4 (aB:List Nat) (bN:List gj) (kz:List (Nat×iH))
 | wG (l:List j5) (bN:List (List gj×Option gj)) (kz:List (Nat×iH))
 | fx (r:Nat)
 | tj (t sz:Nat)
 | sub (e:rh) (env:List (Nat×ax)) (rows:List (List ab))
structure Ky where
 e:Exit
 s:S
 aI:Nat
 tape:List bE
 ey:List Prop
def kh (m:Nat):List bE→S→Nat→Option (List bE×S×Nat×List Prop)
 | .a4 aB bN kz::tape,s,aI=>match yH m s aB bN kz with
  | some (s1,n1,bt)=>match kh m tape s1 n1 with
   | some (t2,s2,n2,aO)=>some (t2,s2,n2,bt++aO)
   | none=>none
  | none=>none
 | .wG l bN kz::tape,s,aI=>match yx m s l bN kz with
  | some (s1,n1,bt)=>match kh m tape s1 n1 with
   | some (t2,s2,n2,aO)=>some (t2,s2,n2,bt++aO)
   | none=>none
  | none=>none
 | .fx r::tape,s,aI=>match s.aL r with
  | some row=>kh m tape (s.setRow r (ic row)) aI
  | none=>none
 | .tj t sz::tape,s,aI=>match s.E t with
  | .eQ=>kh m tape {E:=fun u=>if u=t then .aN aI 0 0 0 else s.E u,aL:=(s.setRow aI [⟨sz,[],.live⟩]).aL} (aI+1)
  | _=>none
 | tape,s,aI=>some (tape,s,aI,[])
def jG (P:Program) (N m:Nat):Code→List bE→S→Nat→Option Ky
 | .skip,tape,s,aI=>some ⟨.normal,s,aI,tape,[]⟩
 | .label _,tape,s,aI=>some ⟨.normal,s,aI,tape,[]⟩
 | .exit id,tape,s,aI=>some ⟨.exit id,s,aI,tape,[]⟩
 | .ret,tape,s,aI=>some ⟨.ret,s,aI,tape,[]⟩
 | .seq x y,tape,s,aI=>match jG P N m x tape s aI with
  | some ⟨.normal,s1,n1,t1,bt⟩=>match jG P N m y t1 s1 n1 with
   | some ⟨e2,s2,n2,t2,aO⟩=>some ⟨e2,s2,n2,t2,bt++aO⟩
   | none=>none
  | some r=>some r
  | none=>none
 | .block id c,tape,s,aI=>match jG P N m c tape s aI with
  | some ⟨.exit qT,s1,n1,t1,bt⟩=>some ⟨if qT=id then .normal else .exit qT,s1,n1,t1,bt⟩
  | r=>r
 | .scope c,tape,s,aI=>jG P N m c tape s aI
 | .region _ ops draw,tape,s,aI=>match kh m tape s aI with
  | some (.J ck::t1,s1,n1,bt)=>match vd P N ops draw ck s1 n1 with
   | some (s2,aO)=>some ⟨.normal,s2,n1+ops.size,t1,bt++aO⟩
   | none=>none
  | _=>none
 | .cond x c d,tape,s,aI=>match kh m tape s aI with
  | some (.sub e env rows::t1,s1,_,bt)=>some ⟨e.x,dy env rows,rows.length,t1,bt++[gM P N m (.cond x c d) e.x s1 (dy env rows)]⟩
  | some (.ah b::t1,s1,n1,bt)=>match dL s1.E x with
   | .b v=>match b with
    | true=>match jG P N m c t1 s1 n1 with
     | some ⟨e2,s2,n2,t2,aO⟩=>some ⟨e2,s2,n2,t2,bt++(v=true)::aO⟩
     | none=>none
    | false=>match jG P N m d t1 s1 n1 with
     | some ⟨e2,s2,n2,t2,aO⟩=>some ⟨e2,s2,n2,t2,bt++(v=false)::aO⟩
     | none=>none
   | _=>none
  | _=>none
 | .loop c,tape,s,aI=>match kh m tape s aI with
  | some (.sub e env rows::t1,s1,_,bt)=>some ⟨e.x,dy env rows,rows.length,t1,bt++[gM P N m (.loop c) e.x s1 (dy env rows)]⟩
  | _=>none
 | _,_,_,_=>none
section
variable {P:Program} {N m:Nat}
theorem gM.intro {c:Code} {e:Exit} {s bu:S} (h : ∀(g:G) av a w,g.N=N→g.m=m→ct g s av a w→c.wp P (fun eJ cV bI=>eJ=e∧ ∃br,ct g bu br cV bI) a w):gM P N m c e s bu:=h
theorem gM.seq {x y:Code} {e:Exit} {s s1 s2:S} (h1:gM P N m x .normal s s1) (h2:gM P N m y e s1 s2):gM P N m (.seq x y) e s s2:=by
 intro g av a w gS hm ao
 refine wp_seq (wp_mono (h1 g av a w gS hm ao) fun eJ cV bI aR=> ?_)
 obtain ⟨rfl,br,fK⟩:=aR
 exact h2 g br cV bI gS hm fK
theorem gM.QJ {x y:Code} {e:Exit} {s s1:S} (h1:gM P N m x e s s1) (he:e≠ .normal):gM P N m (.seq x y) e s s1:=by
 intro g av a w gS hm ao
 refine wp_seq (wp_mono (h1 g av a w gS hm ao) fun eJ cV bI aR=> ?_)
 obtain ⟨rfl,fK⟩:=aR
 cases eJ<;>first|exact absurd rfl he|exact ⟨rfl,fK⟩
theorem gM.O2 {c:Code} {id qT:Nat} {s s1:S} (h1:gM P N m c (.exit qT) s s1):gM P N m (.block id c) (if qT=id then .normal else .exit qT) s s1:=by
 intro g av a w gS hm ao
 refine wp_block (wp_mono (h1 g av a w gS hm ao) fun eJ cV bI aR=> ?_)
 obtain ⟨rfl,fK⟩:=aR
 simp only [Exit.inBlock]
 split
 ·exact ⟨rfl,fK⟩
 ·exact ⟨rfl,fK⟩
theorem gM.block {c:Code} {id:Nat} {e:Exit} {s s1:S} (h1:gM P N m c e s s1) (he : ∀i,e≠ .exit i):gM P N m (.block id c) e s s1:=by
 intro g av a w gS hm ao
 refine wp_block (wp_mono (h1 g av a w gS hm ao) fun eJ cV bI aR=> ?_)
 obtain ⟨rfl,fK⟩:=aR
 cases eJ<;>first|exact absurd rfl (he _)|exact ⟨rfl,fK⟩
theorem gM.scope {c:Code} {e:Exit} {s s1:S} (h1:gM P N m c e s s1) (he : ∀l,e≠ .goto l):gM P N m (.scope c) e s s1:=by
 intro g av a w gS hm ao
 refine wp_scope_straight (wp_mono (h1 g av a w gS hm ao) fun eJ cV bI aR=> ?_)
 obtain ⟨rfl,fK⟩:=aR
 cases eJ<;>first|exact absurd rfl (he _)|exact ⟨rfl,fK⟩
theorem GR {ops:Array Oper} : ∀(l:List Oper) (ck:List (eS×Bool)) (s bu:S) (aI:Nat) (aq:List Prop),
 mn P N ops l ck s aI=some (bu,aq)→s.hX aI→bu.hX (aI+l.length)
 | [],[],s,bu,aI,aq,h,bQ=>by
  simp [mn] at h;obtain ⟨rfl,rfl⟩:=h;simpa using bQ
 | R::l,eC::ck,s,bu,aI,aq,h,bQ=>by
  simp only [mn] at h
  split at h
  ·rename_i bi ar
   split at h
   ·rename_i s2 wF h2
    simp only [Option.some.injEq,Prod.mk.injEq] at h
    obtain ⟨rfl,rfl⟩:=h
    have:=GR l ck (s.az R bi) s2 (aI+1) wF h2 (xS ar bQ)
    rw [List.length_cons]
    rw [show aI+(l.length+1)=aI+1+l.length by omega];exact this
   ·simp at h
  ·simp at h
 | [],_::_,_,_,_,_,h,_=>by simp [mn] at h
 | _::_,[],_,_,_,_,h,_=>by simp [mn] at h
theorem GS {ops:Array Oper} : ∀(l:List Oper) (ck:List (eS×Bool)) (s bu:S) (aI:Nat) (gQ:List Rec),
 mo P N ops l ck s aI=some (bu,gQ)→s.hX aI→bu.hX (aI+l.length)
 | [],[],s,bu,aI,aq,h,bQ=>by
  simp [mo] at h;obtain ⟨rfl,rfl⟩:=h;simpa using bQ
 | R::l,eC::ck,s,bu,aI,aq,h,bQ=>by
  simp only [mo] at h
  split at h
  ·rename_i bi ar
   split at h
   ·rename_i s2 wF h2
    simp only [Option.some.injEq,Prod.mk.injEq] at h
    obtain ⟨rfl,rfl⟩:=h
    have:=GS l ck (s.az R bi) s2 (aI+1) wF h2 (xS (CV ar) bQ)
    rw [List.length_cons]
    rw [show aI+(l.length+1)=aI+1+l.length by omega];exact this
   ·simp at h
  ·simp at h
 | [],_::_,_,_,_,_,h,_=>by simp [mo] at h
 | _::_,[],_,_,_,_,h,_=>by simp [mo] at h
theorem NP {ops:Array Oper} {draw:Bool} {ck:List (eS×Bool)} {s bu:S} {aI:Nat} {aq:List Prop}
 (h:vd P N ops draw ck s aI=some (bu,aq)) (bQ:s.hX aI):bu.hX (aI+ops.size):=by
 unfold vd at h
 split at h
 ·split at h
  ·rename_i s2 fq vZ
   split at h
   ·simp only [Option.some.injEq,Prod.mk.injEq] at h
    obtain ⟨rfl,rfl⟩:=h
    simpa using GS _ _ _ _ _ _ vZ bQ
   ·simp at h
  ·simp at h
 ·simpa using GR _ _ _ _ _ _ h bQ
theorem OH {s:S} {n r:Nat} {row:List ab} (h:s.hX n) (ao:r<n):(s.setRow r row).hX n:=by
 intro q aR
 have:q≠r:=by omega
 simp [S.setRow,this,h q aR]
theorem sk : ∀(tape:List bE) (s:S) (aI:Nat) (h7:List bE) (bu:S) (kU:Nat) (aq:List Prop),kh m tape s aI=some (h7,bu,kU,aq)→(∀p∈aq,p)→s.hX aI →
 bu.hX kU∧ ∀(g:G) av a w,g.m=m→ct g s av a w→ ∃br,ct g bu br a w:=by
 intro tape
 induction tape with
 | nil =>
  intro s aI h7 bu kU aq h a5 bQ
  simp [kh] at h;obtain ⟨rfl,rfl,rfl,rfl⟩:=h
  exact ⟨bQ,fun g av a w _ ao=>⟨av,ao⟩⟩
 | cons x tape ih =>
  intro s aI h7 bu kU aq h a5 bQ
  cases x with
  | a4 aB bN kz =>
   simp only [kh] at h
   split at h
   ·rename_i s1 n1 bt h1
    split at h
    ·rename_i t2 s2 n2 aO h2
     simp only [Option.some.injEq,Prod.mk.injEq] at h
     obtain ⟨rfl,rfl,rfl,rfl⟩:=h
     have vK:s1.hX n1:=by
      unfold yH at h1
      split at h1
      ·split at h1
       ·simp only [Option.some.injEq,Prod.mk.injEq] at h1
        obtain ⟨rfl,rfl,rfl⟩:=h1
        exact qg _ _
       ·simp at h1
      ·simp at h1
     obtain ⟨e1,e2⟩:=ih s1 n1 t2 s2 n2 aO h2 (fun p aj=>a5 p (by simp [aj])) vK
     refine ⟨e1,fun g av a w hm ao=> ?_⟩
     obtain ⟨-,f2⟩:=Qk ao (by rw [hm];exact h1) (fun p aj=>a5 p (by simp [aj]))
     exact e2 g _ a w hm f2
    ·simp at h
   ·simp at h
  | wG l bN kz =>
   simp only [kh] at h
   split at h
   ·rename_i s1 n1 bt h1
    split at h
    ·rename_i t2 s2 n2 aO h2
     simp only [Option.some.injEq,Prod.mk.injEq] at h
     obtain ⟨rfl,rfl,rfl,rfl⟩:=h
     have vK:s1.hX n1:=by
      unfold yx at h1
      split at h1
      ·split at h1
       ·simp only [Option.some.injEq,Prod.mk.injEq] at h1
        obtain ⟨rfl,rfl,rfl⟩:=h1
        exact qg _ _
       ·simp at h1
      ·simp at h1
     obtain ⟨e1,e2⟩:=ih s1 n1 t2 s2 n2 aO h2 (fun p aj=>a5 p (by simp [aj])) vK
     refine ⟨e1,fun g av a w hm ao=> ?_⟩
     obtain ⟨-,f2⟩:=Py ao (by rw [hm];exact h1) (fun p aj=>a5 p (by simp [aj]))
     exact e2 g _ a w hm f2
    ·simp at h
   ·simp at h
  | fx r =>
   simp only [kh] at h
   split at h
   ·rename_i row dt
    have c0:r<aI:=by
     rcases Nat.lt_or_ge r aI with cx|cx
     ·exact cx
     ·rw [bQ r cx] at dt;simp at dt
    obtain ⟨e1,e2⟩:=ih _ aI h7 bu kU aq h a5 (OH bQ c0)
    exact ⟨e1,fun g av a w hm ao=>e2 g av a w hm (ao.freeze dt)⟩
   ·simp at h
  | tj t sz =>
   simp only [kh] at h
   split at h
   ·rename_i bZ
    obtain ⟨e1,e2⟩:=ih _ (aI+1) h7 bu kU aq h a5 (by
     intro q aR
     have:q≠aI:=by omega
     simp [S.setRow,this,bQ q (by omega)])
    refine ⟨e1,fun g av a w hm ao=> ?_⟩
    obtain ⟨br,fK⟩:=ao.tj (sz:=sz) (bQ aI (Nat.le_refl _)) bZ
    exact e2 g br a w hm fK
   ·simp at h
  | J ck=>simp [kh] at h;obtain ⟨rfl,rfl,rfl,rfl⟩:=h;exact ⟨bQ,fun g av a w _ ao=>⟨av,ao⟩⟩
  | ah b=>simp [kh] at h;obtain ⟨rfl,rfl,rfl,rfl⟩:=h;exact ⟨bQ,fun g av a w _ ao=>⟨av,ao⟩⟩
  | sub e env rows=>simp [kh] at h;obtain ⟨rfl,rfl,rfl,rfl⟩:=h;exact ⟨bQ,fun g av a w _ ao=>⟨av,ao⟩⟩
theorem yk {c:Code} {e:Exit} {s bu:S} (h : ∀ {Q:Exit→Act→World→Prop} {a w},Q e a w→c.wp P Q a w) (cy:bu=s):gM P N m c e s bu:=by
 intro g av a w _ _ ao
 exact h ⟨rfl,av,by rw [cy];exact ao⟩
theorem O3 (lW:P.follows .mixedOrders=true) : ∀(c:Code) (tape:List bE) (s:S) (aI:Nat) (r:Ky),jG P N m c tape s aI=some r→(∀p∈r.ey,p)→s.hX aI →
 (r.s.hX r.aI∧(∀l,r.e≠ .goto l))∧gM P N m c r.e s r.s:=by
 intro c
 induction c with
 | skip =>
  intro tape s aI r h a5 bQ
  simp [jG] at h;subst h
  exact ⟨⟨bQ,by simp⟩,yk wp_skip rfl⟩
 | label l =>
  intro tape s aI r h a5 bQ
  simp [jG] at h;subst h
  exact ⟨⟨bQ,by simp⟩,yk wp_label rfl⟩
 | exit id =>
  intro tape s aI r h a5 bQ
  simp [jG] at h;subst h
  exact ⟨⟨bQ,by simp⟩,yk wp_exit rfl⟩
 | ret =>
  intro tape s aI r h a5 bQ
  simp [jG] at h;subst h
  exact ⟨⟨bQ,by simp⟩,yk wp_ret rfl⟩
 | seq x y J6 Su =>
  intro tape s aI r h a5 bQ
  simp only [jG] at h
  split at h
  ·rename_i s1 n1 t1 bt h1
   split at h
   ·rename_i e2 s2 n2 t2 aO h2
    simp only [Option.some.injEq] at h;subst h
    obtain ⟨⟨f1,-⟩,v1⟩:=J6 _ _ _ _ h1 (fun p aj=>a5 p (by simp [aj])) bQ
    obtain ⟨f2,v2⟩:=Su _ _ _ _ h2 (fun p aj=>a5 p (by simp [aj])) f1
    exact ⟨f2,v1.seq v2⟩
   ·simp at h
  ·rename_i r1 eR h1
   simp only [Option.some.injEq] at h;subst h
   obtain ⟨f1,v1⟩:=J6 _ _ _ _ h1 a5 bQ
   refine ⟨f1,v1.QJ fun he=> ?_⟩
   obtain ⟨e1,s1,n1,t1,bt⟩:=r1
   simp only at he;subst he
   exact eR s1 n1 t1 bt rfl
  ·simp at h
 | block id c ih =>
  intro tape s aI r h a5 bQ
  simp only [jG] at h
  split at h
  ·rename_i qT s1 n1 t1 bt h1
   simp only [Option.some.injEq] at h;subst h
   obtain ⟨⟨f1,f2⟩,v1⟩:=ih _ _ _ _ h1 a5 bQ
   exact ⟨⟨f1,by intro l;simp only;split<;>simp⟩,v1.O2⟩
  ·rename_i eR
   obtain ⟨f1,v1⟩:=ih _ _ _ _ h a5 bQ
   refine ⟨f1,v1.block fun i he=> ?_⟩
   obtain ⟨e1,s1,n1,t1,bt⟩:=r
   simp only at he;subst he
   exact eR i s1 n1 t1 bt h
 | scope c ih =>
  intro tape s aI r h a5 bQ
  simp only [jG] at h
  obtain ⟨f1,v1⟩:=ih _ _ _ _ h a5 bQ
  exact ⟨f1,v1.scope f1.2⟩
 | region id ops draw =>
  intro tape s aI r h a5 bQ
  simp only [jG] at h
  split at h
  ·rename_i ck t1 s1 n1 bt h1
   split at h
   ·rename_i s2 aO h2
    simp only [Option.some.injEq] at h;subst h
    obtain ⟨f1,v1⟩:=sk _ _ _ _ _ _ _ h1 (fun p aj=>a5 p (by simp [aj])) bQ
    refine ⟨⟨NP h2 f1,by simp⟩,?_⟩
    intro g av a w gS hm ao
    obtain ⟨ij,gn⟩:=v1 g av a w hm ao
    subst gS
    exact Nu lW h2 (fun p aj=>a5 p (by simp [aj])) f1 gn id fun br cV bI cx=>⟨rfl,br,cx⟩
   ·simp at h
  ·simp at h
 | cond x c d Sv Sw =>
  intro tape s aI r h a5 bQ
  simp only [jG] at h
  split at h
  ·rename_i e env rows t1 s1 n1 bt h1
   simp only [Option.some.injEq] at h;subst h
   obtain ⟨f1,v1⟩:=sk _ _ _ _ _ _ _ h1 (fun p aj=>a5 p (by simp [aj])) bQ
   have a1:gM P N m (.cond x c d) e.x s1 (dy env rows):=a5 _ (by simp)
   refine ⟨⟨qg _ _,by intro l;cases e<;>simp [rh.x]⟩,fun g av a w gS hm ao=> ?_⟩
   obtain ⟨ij,gn⟩:=v1 g av a w hm ao
   exact a1 g ij a w gS hm gn
  ·rename_i b t1 s1 n1 bt h1
   split at h
   ·rename_i v a1
    have a8 : ∀(g:G) av a w,ct g s1 av a w→a.eval x = .bool v:=by
     intro g av a w ao
     have:=ao.eval x
     rw [a1] at this
     exact this.oV
    split at h
    ·split at h
     ·rename_i e2 s2 n2 t2 aO h2
      simp only [Option.some.injEq] at h;subst h
      obtain ⟨f1,v1⟩:=sk _ _ _ _ _ _ _ h1 (fun p aj=>a5 p (by simp [aj])) bQ
      obtain ⟨f2,v2⟩:=Sv _ _ _ _ h2 (fun p aj=>a5 p (by simp [aj])) f1
      have EB:v=true:=a5 _ (by simp)
      refine ⟨f2,fun g av a w gS hm ao=> ?_⟩
      obtain ⟨ij,gn⟩:=v1 g av a w hm ao
      exact wp_cond_true (by rw [a8 g ij a w gn,EB]) (v2 g ij a w gS hm gn)
     ·simp at h
    ·split at h
     ·rename_i e2 s2 n2 t2 aO h2
      simp only [Option.some.injEq] at h;subst h
      obtain ⟨f1,v1⟩:=sk _ _ _ _ _ _ _ h1 (fun p aj=>a5 p (by simp [aj])) bQ
      obtain ⟨f2,v2⟩:=Sw _ _ _ _ h2 (fun p aj=>a5 p (by simp [aj])) f1
      have EB:v=false:=a5 _ (by simp)
      refine ⟨f2,fun g av a w gS hm ao=> ?_⟩
      obtain ⟨ij,gn⟩:=v1 g av a w hm ao
      exact wp_cond_false (by rw [a8 g ij a w gn,EB]) (v2 g ij a w gS hm gn)
     ·simp at h
   ·simp at h
  ·simp at h
 | loop c ih =>
  intro tape s aI r h a5 bQ
  simp only [jG] at h
  split at h
  ·rename_i e env rows t1 s1 n1 bt h1
   simp only [Option.some.injEq] at h;subst h
   obtain ⟨f1,v1⟩:=sk _ _ _ _ _ _ _ h1 (fun p aj=>a5 p (by simp [aj])) bQ
   have a1:gM P N m (.loop c) e.x s1 (dy env rows):=a5 _ (by simp)
   refine ⟨⟨qg _ _,by intro l;cases e<;>simp [rh.x]⟩,fun g av a w gS hm ao=> ?_⟩
   obtain ⟨ij,gn⟩:=v1 g av a w hm ao
   exact a1 g ij a w gS hm gn
  ·simp at h
 | _=>intro tape s aI r h;simp [jG] at h
def m2 (P:Program) (N m:Nat) (c:Code) (e:Exit) (s bu:S):Prop :=
 ∃n,∀(g:G) av a w,g.N=N→g.m=m→ct g s av a w→Code.rounds P c (fun eJ cV bI=>eJ=e∧ ∃br,ct g bu br cV bI) n a w
theorem m2.Sx {c:Code} {e:Exit} {s bu:S} (h:m2 P N m c e s bu):gM P N m (.loop c) e s bu:=by
 obtain ⟨n,h⟩:=h
 intro g av a w gS hm ao
 exact wp_loop_rounds n (h g av a w gS hm ao)
theorem m2.out {c:Code} {e:Exit} {s bu:S} (h:gM P N m c e s bu) (he:e≠ .normal):m2 P N m c e s bu:=by
 refine ⟨1,fun g av a w gS hm ao=> ?_⟩
 rw [rounds_succ]
 refine wp_mono (h g av a w gS hm ao) fun eJ cV bI aR=> ?_
 obtain ⟨rfl,fK⟩:=aR
 cases eJ<;>first|exact absurd rfl he|exact ⟨rfl,fK⟩
theorem m2.next {c:Code} {e:Exit} {s s1 bu:S} (h:gM P N m c .normal s s1) (h2:m2 P N m c e s1 bu):m2 P N m c e s bu:=by
 obtain ⟨n,h2⟩:=h2
 refine ⟨n+1,fun g av a w gS hm ao=> ?_⟩
 rw [rounds_succ]
 refine wp_mono (h g av a w gS hm ao) fun eJ cV bI aR=> ?_
 obtain ⟨rfl,br,fK⟩:=aR
 exact h2 g br cV bI gS hm fK
inductive cd:List Prop→Prop
 | nil:cd []
 | cons {p:Prop} {l:List Prop} (h:p) (t:cd l):cd (p::l)
theorem cd.c {p:Prop} {l:List Prop} (h:p) (t:cd l):cd (p::l):= .cons h t
theorem cd.az {l m:List Prop} (h:cd l) (k:cd m):cd (l++m):=by
 induction h with
 | nil=>exact k
 | cons h _ ih=>exact .cons h ih
theorem cd.all {l:List Prop} (h:cd l) : ∀p∈l,p:=by
 induction h with
 | nil=>intro p aj;simp at aj
 | cons h t ih =>
  intro q aR
  rw [List.mem_cons] at aR
  rcases aR with rfl|aR
  ·exact h
  ·exact ih q aR
theorem cd.of : ∀ {l:List Prop},(∀p∈l,p)→cd l
 | [],_=> .nil
 | _::_,h=> .cons (h _ (by simp)) (.of fun p aj=>h p (by simp [aj]))
def zb (P:Program) (N m:Nat) (c:Code) (tape:List bE) (s:S) (aI:Nat):Option (Exit×S×List Prop) :=
 match jG P N m c tape s aI with
 | some ⟨e,s1,n1,t1,bt⟩=>match kh m t1 s1 n1 with
  | some ([],s2,_,aO)=>some (e,s2,bt++aO)
  | _=>none
 | none=>none
theorem HG (lW:P.follows .mixedOrders=true) {c:Code} {tape:List bE} {s bu:S} {aI:Nat} {e:Exit} {aq:List Prop} (h:zb P N m c tape s aI=some (e,bu,aq)) (a5:cd aq) (bQ:s.hX aI) :
 gM P N m c e s bu:=by
 have a5:=a5.all
 unfold zb at h
 split at h
 ·rename_i e1 s1 n1 t1 bt h1
  split at h
  ·rename_i s2 n2 aO h2
   simp only [Option.some.injEq,Prod.mk.injEq] at h
   obtain ⟨rfl,rfl,rfl⟩:=h
   obtain ⟨⟨f1,-⟩,v1⟩:=O3 lW c tape s aI _ h1 (fun p aj=>a5 p (by simp [aj])) bQ
   obtain ⟨-,v2⟩:=sk _ _ _ _ _ _ _ h2 (fun p aj=>a5 p (by simp [aj])) f1
   intro g av a w gS hm ao
   refine wp_mono (v1 g av a w gS hm ao) fun eJ cV bI aR=> ?_
   obtain ⟨rfl,br,fK⟩:=aR
   exact ⟨rfl,v2 g br cV bI hm fK⟩
  ·simp at h
 ·simp at h
end
end Go.VL
namespace Go.VL
set_option linter.unusedVariables false
set_option linter.unusedSimpArgs false
open Go
def n6 (P:Program) (s:S):ResultVar→Option ax
 | .tmp t=>some (s.E t)
 | .cell t ew=>match s.E t with
  | .ref r k i off=>match ca (s.aL r) k with
   | some R=>match R.es[i]? with
    | some c=>n7 P ew c off
    | none=>none
   | none=>none
  | _=>none
def D3 (P:Program) (s:S):List ResultVar→Option ax
 | []=>some (.cz [])
 | [x]=>n6 P s x
 | [x,y]=>match n6 P s x,n6 P s y with
  | some a,some b=>some (.cz [a,b])
  | _,_=>none
 | [x,y,z]=>match n6 P s x,n6 P s y,n6 P s z with
  | some a,some b,some c=>some (.cz [a,b,c])
  | _,_,_=>none
 | _=>none
def Dy (tmps:Array Value):ResultVar→Sem Value
 | .tmp t=>pure (tmps.getD t undef)
 | .cell a t=>do loadVar t (← asAddr (tmps.getD a undef))
theorem OI (fn:Func) (tmps:Array Value):results fn tmps=(do
 let vs ← fn.results.mapM (Dy tmps)
 pure (if h:vs.size=1 then vs[0] else .tuple vs)):=rfl
def qq (args:List ax) (T:List (List ab)):S:={E:=fun t=>(args[t]?).getD (.cz []),aL:=fun r=>T[r]?}
def Jf:Exit→Bool
 | .normal=>true
 | .ret=>true
 | _=>false
def v5 (P:Program) (f:FuncId) (args:List ax) (T:List (List ab)) (tape:List bE) (aB:List Nat) (bN:List gj) (cC:iH):Option (ax×List (List ab)×List Prop) :=
 match P.funcs[f]? with
 | none=>none
 | some fn=>match fn.body with
  | none=>none
  | some c=>if fn.name == "runtime.NumGoroutine" then none else
   match zb P fn.ntmps T.length c tape (qq args T) T.length with
   | none=>none
   | some (e,s,bt)=>if Jf e && decide aB.Nodup && vJ aB T.length then
    match D3 P s fn.results.toList with
    | none=>none
    | some r0=>match ob s.aL (eD aB) (jP aB) aB bN,kj s.aL (eD aB) (jP aB) el cC r0 with
     | some (gP,aO),some (r,dZ)=>some (r,gP,bt++aO++dZ)
     | _,_=>none
    else none
section
variable {P:Program}
theorem sl {g:G} {s:S} {av:d8} {a:Act} {w:World} (h:ct g s av a w) {x:ResultVar} {r0:ax} (ao:n6 P s x=some r0) :
 ∃v,(Dy a.tmps x).run P w = .ok v w∧Rel w (s.ok g av w) s.aP (s.aX av) r0 v:=by
 cases x with
 | tmp t =>
  simp only [n6,Option.some.injEq] at ao;subst ao
  exact ⟨_,rfl,h.env t⟩
 | cell t ew =>
  simp only [n6] at ao
  have af:=h.env t
  split at ao
  ·rename_i r k i off fm
   rw [fm] at af
   split at ao
   ·rename_i R al
    split at ao
    ·rename_i c a8
     have cT:s.aq r k=some R:=al
     have eB:=h.obj r k R cT
     rcases af.sT (hc cT) with h0|⟨b,m,aj,hval⟩
     ·rw [h0] at eB
      simp only [hb] at eB
      rw [eB] at a8;simp at a8
     ·rw [aj] at eB
      obtain ⟨u,h1,h2⟩:=CS (P:=P) eB.rd a8 ao
      refine ⟨u,?_,h2⟩
      rw [Nat.zero_add] at h1
      simp only [Dy,hval,asAddr]
      simpa [Instr.loadAt,Instr.sureAddr] using h1
    ·simp at ao
   ·simp at ao
  ·simp at ao
theorem O4 {g:G} {s:S} {av:d8} {a:Act} {w:World} (h:ct g s av a w) {fn:Func} {r0:ax} (ao:D3 P s fn.results.toList=some r0) :
 ∃v,(results fn a.tmps).run P w = .ok v w∧Rel w (s.ok g av w) s.aP (s.aX av) r0 v:=by
 have yV : ∀l,fn.results.toList=l→fn.results=l.toArray:=fun l aM=>by rw [← aM]
 unfold D3 at ao
 rw [OI]
 split at ao
 ·rename_i aM
  simp only [Option.some.injEq] at ao;subst ao
  rw [yV _ aM]
  exact ⟨.tuple #[],by simp,.cz [] rfl (by simp)⟩
 ·rename_i x aM
  rw [yV _ aM]
  obtain ⟨v,h1,h2⟩:=sl h ao
  exact ⟨v,by simp [h1,Sem.run_bind,Result.andThen],h2⟩
 ·rename_i x y aM
  rw [yV _ aM]
  split at ao
  ·rename_i p q aj aR
   simp only [Option.some.injEq] at ao;subst ao
   obtain ⟨v1,h1,h2⟩:=sl h aj
   obtain ⟨v2,ag,ap⟩:=sl h aR
   refine ⟨.tuple #[v1,v2],by simp [h1,ag,Sem.run_bind,Result.andThen],.cz [v1,v2] rfl ?_⟩
   intro j x v af a1
   match j,af,a1 with
   | 0,af,a1=>obtain rfl:=Option.some.inj af;obtain rfl:=Option.some.inj a1;exact h2
   | 1,af,a1=>obtain rfl:=Option.some.inj af;obtain rfl:=Option.some.inj a1;exact ap
   | j+2,af,a1=>simp at af
  ·simp at ao
 ·rename_i x y z aM
  rw [yV _ aM]
  split at ao
  ·rename_i p q t aj aR bZ
   simp only [Option.some.injEq] at ao;subst ao
   obtain ⟨v1,h1,h2⟩:=sl h aj
   obtain ⟨v2,ag,ap⟩:=sl h aR
   obtain ⟨v3,aE,aQ⟩:=sl h bZ
   refine ⟨.tuple #[v1,v2,v3],by simp [h1,ag,aE,Sem.run_bind,Result.andThen],.cz [v1,v2,v3] rfl ?_⟩
   intro j x v af a1
   match j,af,a1 with
   | 0,af,a1=>obtain rfl:=Option.some.inj af;obtain rfl:=Option.some.inj a1;exact h2
   | 1,af,a1=>obtain rfl:=Option.some.inj af;obtain rfl:=Option.some.inj a1;exact ap
   | 2,af,a1=>obtain rfl:=Option.some.inj af;obtain rfl:=Option.some.inj a1;exact aQ
   | j+3,af,a1=>simp at af
  ·simp at ao
 ·simp at ao
theorem finish {g:G} {s:S} {av:d8} {a:Act} {w:World} (h:ct g s av a w) {aB:List Nat} {bN:List gj} {cC:iH} {r0 r:ax} {gP:List (List ab)} {aO dZ:List Prop}
 (hnd:aB.Nodup) (nb:vJ aB g.m=true) (h1:ob s.aL (eD aB) (jP aB) aB bN=some (gP,aO)) (h2:kj s.aL (eD aB) (jP aB) el cC r0=some (r,dZ)) (li : ∀p∈aO,p) (Et : ∀p∈dZ,p)
 {v:Value} (a1:Rel w (s.ok g av w) s.aP (s.aX av) r0 v) :
 ∃br,fU g (dw gP) br w∧Rel w ((dw gP).ok g br w) (dw gP).aP ((dw gP).aX br) r v:=by
 obtain ⟨e1,e2⟩:=Di h.tofU (yI hnd) aB bN gP aO h1 li
 have Sy:fJ s (jP aB) el iY r0 r:=vh h.tofU (yI hnd) (o4 _) h2 Et trivial a1
 have cv:l2 s (jP aB) el iY (dw gP).aL:=IR hnd e1 e2
 have vU:=H4 h.tofU nb
 have j4 : ∀b,(dw gP).jB (hf av (jP aB)) b→s.jB av b:=fun b aM=>by
  obtain ⟨q,k,R,m,h1,h2,ag,-⟩:=cv.live (bu:=dw gP) b aM
  exact ⟨q,k,R,m,h1,h2,ag⟩
 have vF : ∀j k,g.lf j k→(dw gP).aP j k∧((dw gP).aX (hf av (jP aB)) j k=g.m8 j k∨(dw gP).aX (hf av (jP aB)) j k=none):=by
  intro j k aS
  obtain ⟨e1,e2⟩:=h.stay j k aS
  refine ⟨cv.aP j k j k (vU j k aS) e1,?_⟩
  rcases cv.y5 (bu:=dw gP) (av:=av) (vU j k aS) with e|e
  ·rw [e];exact e2
  ·exact .inr e
 obtain ⟨f1,f2⟩:=h.tofU.E2 (bu:=dw gP) cv h.fV vF h.low h.mlt h.kn (fun r k R b m _ al aj=>h.own r k R b m al aj)
  (fun b aT=>⟨aT.1,aT.2.1,fun aM=>aT.2.2 (j4 b aM)⟩)
  (fun q k R b m al _ ao aj=>by
    have a5:=h.obj q k R al
    rw [aj] at a5
    obtain ⟨c,ew,e1,-⟩:=a5
    refine ⟨(Array.getElem?_eq_some_iff.1 e1).1,?_,fun aM=> ?_⟩
    ·rcases h.own q k R b m al aj with e|e
     ·exact .inr (.inl e)
     ·exact .inr (.inr e)
    ·obtain ⟨dj,cF,bP,dQ,f1,f2,f3,⟨E3,w8,f4⟩⟩:=cv.live (bu:=dw gP) b aM
     obtain ⟨rfl,rfl⟩:=h.inj q k R dj cF bP b m dQ al f1 aj f3
     exact ao E3 w8 f4)
 exact ⟨_,f1,f2 Sy a1⟩
theorem H7 (lW:P.follows .mixedOrders=true) {f:FuncId} {args:List ax} {T:List (List ab)} {tape:List bE} {aB:List Nat} {bN:List gj} {cC:iH} {r:ax} {gP:List (List ab)} {aq:List Prop}
 (h:v5 P f args T tape aB bN cC=some (r,gP,aq)) (a5:cd aq):Con P f args T r gP:=by
 have a5:=a5.all
 unfold v5 at h
 split at h
 ·simp at h
 ·rename_i fn J7
  split at h
  ·simp at h
  ·rename_i c a8
   split at h
   ·simp at h
   ·rename_i Rv
    split at h
    ·simp at h
    ·rename_i e s bt kK
     split at h
     ·rename_i Jg
      simp only [Bool.and_eq_true,decide_eq_true_eq] at Jg
      obtain ⟨⟨tg,hnd⟩,nb⟩:=Jg
      split at h
      ·simp at h
      ·rename_i r0 iD
       split at h
       ·rename_i jT aO r2 dZ h1 h2
        simp only [Option.some.injEq,Prod.mk.injEq] at h
        obtain ⟨rfl,rfl,rfl⟩:=h
        refine ⟨⟨fn,J7,by simpa using Rv,by simp [a8]⟩,?_⟩
        intro g av w vs hw hm qN js dn d9 hargs
        have vK:(qq args T).hX T.length:=by intro q aR;simp [qq,aR]
        have UF:=dn
        let fb:G:={g with N:=fn.ntmps}
        have eB:ct fb (qq args T) av {tmps:=vs++Array.replicate (fn.ntmps-vs.size) undef,defers:=[]} w:=by
         have zc:(qq args T).aL=(dw T).aL:=rfl
         have mH:fU g (qq args T) av w:=dn.congr zc
         have Sz:fU fb (qq args T) av w:=⟨mH.obj,mH.inj,mH.own,⟨mH.fV.os,mH.fV.tape,mH.fV.output,mH.fV.size,mH.fV.block⟩,mH.mlt,mH.kn,mH.stay,mH.low⟩
         refine {tofU:=Sz,env:=fun t=> ?_,defers:=rfl,hO:=by simp [fb];omega}
         have e1:(vs++Array.replicate (fn.ntmps-vs.size) undef).getD t undef=(vs[t]?).getD undef:=by
          rw [Array.getD_eq_getD_getElem?,Array.getElem?_append]
          split
          ·rfl
          ·rename_i c0
           rw [Array.getElem?_replicate]
           have:vs[t]? = none:=by simp;omega
           rw [this]
           split<;>rfl
         show Rel _ _ _ _ ((args[t]?).getD (.cz [])) _
         rw [e1]
         cases af:args[t]? with
         | none =>
          have:vs[t]? = none:=by
           rw [List.getElem?_eq_none_iff] at af
           simp;omega
          rw [this]
          exact Hy
         | some x =>
          have c0:=dT af
          have a1:vs[t]? = some vs[t]:=Array.getElem?_eq_getElem (by omega)
          rw [a1]
          have:=hargs t x _ af a1
          rw [← vg zc,← sM zc,← sN zc] at this
          exact this
        have a1:=HG lW kK (by
         exact cd.of fun p aj=>a5 p (by simp [aj])) vK fb av _ w rfl hm eB
        refine calls_of_wp J7 a8 (wp_mono a1 fun eJ cV bI aR=> ?_)
        obtain ⟨rfl,br,fK⟩:=aR
        obtain ⟨v,v1,v2⟩:=O4 (P:=P) fK iD
        obtain ⟨iJ,f1,f2⟩:=finish fK hnd (by rw [show fb.m=T.length from hm];exact nb) h1 h2 (fun p aj=>a5 p (by simp [aj])) (fun p aj=>a5 p (by simp [aj])) v2
        have JB:cV.defers=[]∧ ∃v,(results fn cV.tmps).run P bI = .ok v bI∧ ∃J8 br,Ending.returned v=Ending.returned J8∧fU g (dw jT) br bI∧Rel bI ((dw jT).ok g br bI) (dw jT).aP ((dw jT).aX br) r2 J8:=by
         refine ⟨fK.defers,v,v1,v,iJ,rfl,?_,f2⟩
         exact ⟨f1.obj,f1.inj,f1.own,⟨f1.fV.os,f1.fV.tape,f1.fV.output,f1.fV.size,f1.fV.block⟩,f1.mlt,f1.kn,f1.stay,f1.low⟩
        cases eJ<;>simp only [Jf,Bool.false_eq_true] at tg
        ·exact JB
        ·exact JB
       ·simp at h
     ·simp at h
theorem Pz (lW:P.follows .mixedOrders=true) {f:FuncId} {args:List ax} {tape:List bE} {cC:iH} {r:ax} {aq:List Prop}
 (h:v5 P f args [] tape [] [] cC=some (r,[],aq)) (a5:cd aq):Con P f args [] r []:=H7 lW h a5
end
end Go.VL
namespace Go.VL
set_option linter.unusedVariables false
set_option linter.unusedSimpArgs false
open Go
def bk {α:Type} (R:Option α) (Q:α→Prop):Prop:= ∀r,R=some r→Q r
section
variable {α β:Type} {Q:α→Prop}
theorem bk.ite {b:Bool} {x y:Option α} (h1:b=true→bk x Q) (h2:b=false→bk y Q):bk (if b=true then x else y) Q:=by
 cases b
 ·exact h2 rfl
 ·exact h1 rfl
theorem bk.au {R:Option β} {f:β→Option α} (h : ∀x,R=some x→bk (f x) Q):bk (R >>= f) Q:=by
 cases R with
 | none=>intro r ao;simp at ao
 | some x=>exact h x rfl
theorem bk.bn {p:Prop} [Decidable p] {x:Option α} (h:p→bk x Q):bk (if p then x else none) Q:=by
 by_cases aj:p
 ·rw [if_pos aj];exact h aj
 ·rw [if_neg aj];intro r ao;simp at ao
theorem bk.ret {r:α} (h:Q r):bk (some r) Q:=by
 intro x af;obtain rfl:=Option.some.inj af;exact h
end
theorem bk.EC {α:Type} {Q:α→Prop}:bk (none:Option α) Q:=by intro r ao;simp at ao
def nodeAt:Code→List Nat→Code
 | c,[]=>c
 | .seq x _,0::l=>nodeAt x l
 | .seq _ y,1::l=>nodeAt y l
 | .cond _ x _,0::l=>nodeAt x l
 | .cond _ _ y,1::l=>nodeAt y l
 | .block _ x,0::l=>nodeAt x l
 | .loop x,0::l=>nodeAt x l
 | .scope x,0::l=>nodeAt x l
 | _,_=> .skip
def Dz (P:Program) (f:FuncId):Code :=
 match P.funcs[f]? with
 | some fn=>match fn.body with
  | some c=>c
  | none=> .skip
 | none=> .skip
theorem Dl {α β:Type} {f:α→β} {l:List α} {i:Nat} {x:α} (h:l[i]? = some x):(l.map f)[i]? = some (f x):=by
 rw [List.getElem?_map,h];rfl
theorem Iu {α β:Type} {f:α→β} {l:List α} {j:Int} (h:j<l.length):j<((l.map f).length:Nat):=by
 rw [List.length_map];exact h
theorem IV {α β:Type} {f:α→β} {l:List α} {j:Nat} (h:j<l.length):j<(l.map f).length:=by
 rw [List.length_map];exact h
end Go.VL
namespace Go.VL
set_option linter.unusedVariables false
set_option linter.unusedSimpArgs false
open Go
def iter {α β:Type} (f:α→Option (α⊕β)) (a:α):Option β:=do
 match ← f a with
 | .inl cV=>iter f cV
 | .inr r=>some r
partial_fixpoint
abbrev To:eS×Bool:=(.none,true)
abbrev Tp:eS×Bool:=(.none,false)
abbrev ii:iH:= .bo (.bX .id)
abbrev U (x:Int):Int:=IntKind.wrap .i64 x
section
variable {P:Program} {N m:Nat} {α β:Type}
theorem QK {c:Code} {f:α→Option (α⊕β)} {head:α→S} {hj:β→Exit} {out:β→S} (hex : ∀r,hj r≠ .normal)
 (h : ∀a,bk (f a) (Sum.elim (fun cV=>gM P N m c .normal (head a) (head cV)) (fun r=>gM P N m c (hj r) (head a) (out r)))) : ∀a r,iter f a=some r→m2 P N m c (hj r) (head a) (out r):=by
 apply iter.partial_correctness f (fun a r=>m2 P N m c (hj r) (head a) (out r))
 intro it ih a r ao
 cases bQ:f a with
 | none=>rw [bQ] at ao;simp at ao
 | some x =>
  have af:=h a x bQ
  rw [bQ] at ao
  cases x with
  | inl cV =>
   have fK:it cV=some r:=ao
   exact m2.next af (ih cV r fK)
  | inr dj =>
   have fK:some dj=some r:=ao
   obtain rfl:=Option.some.inj fK
   exact m2.out af (hex _)
theorem bK {a:Bool} (h:a=true):(!a)=false:=by rw [h];rfl
theorem b3 {a:Bool} (h:a=false):(!a)=true:=by rw [h];rfl
theorem jA {bY:Type} {raw:List (List ax)} {f:bY→List ax} {l:List bY} (e:raw=l.map f) {i:Nat} {x:bY} (h:l[i]? = some x):raw[i]? = some (f x):=by
 rw [e];exact Dl h
theorem T4 {bY:Type} {raw:List (List ax)} {f:bY→List ax} {l:List bY} (e:raw=l.map f) {j:Int} (h:j<l.length):j<(raw.length:Nat):=by
 rw [e];exact Iu h
theorem Q5 {bY:Type} {raw:List (List ax)} {f:bY→List ax} {l:List bY} (e:raw=l.map f) {j:Nat} (h:j<l.length):j<raw.length:=by
 rw [e];exact IV h
theorem fZ {bY:Type} {raw:List (List ax)} {f:bY→List ax} {l:List bY} (e:raw=l.map f) (i:Nat) (x:bY):raw.set i (f x)=(l.set i x).map f:=by
 rw [e,List.map_set]
theorem T5 {bY:Type} {raw:List (List ax)} {f:bY→List ax} {l:List bY} (e:raw=l.map f) (x:List bY):raw++x.map f=(l++x).map f:=by
 rw [e,List.map_append]
theorem kB {bY:Type} (f:bY→List ax) (n:Nat) (x:bY):List.replicate n (f x)=(List.replicate n x).map f:=by
 rw [List.map_replicate]
theorem Dm {bY:Type} {raw:List (List ax)} {f:bY→List ax} {l:List bY} (e:raw=l.map f) (i n:Nat):(raw.drop i).take n=((l.drop i).take n).map f:=by
 rw [e,List.map_take,List.map_drop]
theorem QL {bY:Type} {raw:List (List ax)} {f:bY→List ax} {l:List bY} (e:raw=l.map f):raw.length=l.length:=by rw [e,List.length_map]
theorem mX {bY:Type} {raw:List (List ax)} {f:bY→List ax} {l:List bY} (e:raw=l.map f) (i n:Nat):((l.drop i).take n).map f=(raw.drop i).take n:=(Dm e i n).symm
theorem lv {bY:Type} {raw:List (List ax)} {f:bY→List ax} {l:List bY} (e:raw=l.map f) {n:Nat} (h:n≤l.length):n≤raw.length:=by rw [QL e];exact h
theorem cn {bY:Type} {f:bY→List ax} (bQ : ∀x,∀v∈f x,Pure v) (l:List bY):hn (l.map f):=by
 intro e he v a1
 rw [List.mem_map] at he
 obtain ⟨x,-,rfl⟩:=he
 exact bQ x v a1
theorem QM {bY:Type} {raw:List (List ax)} {f:bY→List ax} {l:List bY} {sz:Nat} {b1:eI} (e:raw=l.map f):[ab.mk sz raw b1]=[ab.mk sz (l.map f) b1]:=by rw [e]
theorem Qm {bY:Type} {f:bY→List ax} (bQ : ∀x,∀v∈f x,Pure v) {sz:Nat} {b1:eI} (l:List bY):vp [ab.mk sz (l.map f) b1]:=by
 intro R al
 rw [List.mem_singleton] at al
 subst al
 exact cn bQ l
theorem nE {c:List ax} (h : ∀v∈c,Pure v):hn [c]:=by
 intro e he
 rw [List.mem_singleton] at he
 subst he
 exact h
theorem TZ {bY:Type} {raw:List (List ax)} {f:bY→List ax} {l:List bY} (e:raw=l.map f):l.map f=(raw.drop 0).take l.length:=by
 rw [e,List.drop_zero,List.take_of_length_le (by simp)]
theorem T6 {bY:Type} {raw:List (List ax)} {f:bY→List ax} {l:List bY} (e:raw=l.map f):0+l.length≤raw.length:=by rw [e];simp
theorem fH : ∀x∈([]:List ax),aK x:=by simp
theorem cG {x:ax} {l:List ax} (h:aK x) (t : ∀y∈l,aK y) : ∀y∈x::l,aK y:=by
 intro y aF
 rw [List.mem_cons] at aF
 rcases aF with rfl|aF
 ·exact h
 ·exact t y aF
theorem lx {l:List ax} (h : ∀y∈l,aK y):aK (.cz l):= .cz h
def len_ {bY:Type} (f:bY→List ax) (l:List bY):Int:=((l.map f).length:Nat)
theorem dM {bY:Type} (f:bY→List ax) (l:List bY):len_ f l=(l.length:Nat):=by simp [len_]
def I (x:Int):List ax:=[.n .i64 x]
def zd (x:Int):List ax:=[.n .u8 x]
def ri (x:Bool):List ax:=[.b x]
def rj (x:ByteArray):List ax:=[.s x]
theorem a3 : ∀x,∀v∈I x,Pure v:=by intro x v a1;simp [I] at a1;subst a1;exact .n _ _
theorem T0 : ∀x,∀v∈zd x,Pure v:=by intro x v a1;simp [zd] at a1;subst a1;exact .n _ _
theorem QN : ∀x,∀v∈ri x,Pure v:=by intro x v a1;simp [ri] at a1;subst a1;exact .b _
theorem Iv : ∀x,∀v∈rj x,Pure v:=by intro x v a1;simp [rj] at a1;subst a1;exact .s _
def tP {bY:Type} (sz:Nat) (f:bY→List ax) (l:List bY):List ax:=[.isl sz (l.map f)]
theorem QO {bY:Type} {sz:Nat} {f:bY→List ax} (bQ : ∀x,∀v∈f x,Pure v) : ∀l,∀v∈tP sz f l,Pure v:=by
 intro l v a1;simp [tP] at a1;subst a1;exact .isl (cn bQ l)
def ep {bY:Type} (sz:Nat) (f:bY→List ax) (x:Option bY):ax:= .dH sz (x.map f)
def ea {bY:Type} (sz:Nat) (f:bY→List ax) (x:Option bY):List ax:=[ep sz f x]
theorem QP {bY:Type} {sz:Nat} {f:bY→List ax} (bQ : ∀x,∀v∈f x,Pure v) (x:Option bY):Pure (ep sz f x):=by
 cases x with
 | none=>exact .lz _
 | some x=>exact .k9 (bQ x)
theorem mY {bY:Type} {sz:Nat} {f:bY→List ax} (bQ : ∀x,∀v∈f x,Pure v) : ∀x,∀v∈ea sz f x,Pure v:=by
 intro x v a1;simp [ea] at a1;subst a1;exact QP bQ x
theorem QQ {bY:Type} {sz:Nat} {f:bY→List ax} {x:Option bY} (h:x=none):ep sz f x = .dH sz none:=by rw [h];rfl
theorem QR {bY:Type} {sz:Nat} {f:bY→List ax} {x:Option bY} {y:bY} (h:x=some y):ep sz f x = .dH sz (some (f y)):=by rw [h];rfl
theorem bk.mI {α bY:Type} {Q:α→Prop} {R:Option bY} {x:Option α} {f:bY→Option α} (h1:R=none→bk x Q) (h2 : ∀y,R=some y→bk (f y) Q):bk (R.elim x f) Q:=by
 cases R with
 | none=>exact h1 rfl
 | some y=>exact h2 y rfl
theorem bk.sum {α β bY:Type} {Q:bY→Prop} {s:α⊕β} {f:α→Option bY} {g:β→Option bY} (h1 : ∀a,s = .inl a→bk (f a) Q) (h2 : ∀b,s = .inr b→bk (g b) Q) :
 bk (match s with | .inl a=>f a | .inr b=>g b) Q:=by
 cases s with
 | inl a=>exact h1 a rfl
 | inr b=>exact h2 b rfl
theorem fQ {bY:Type} {n:Nat} {l:List bY} (h:n=l.length) (i:Nat) (x:bY):n=(l.set i x).length:=by rw [List.length_set];exact h
theorem kC {bY:Type} (n:Nat) (x:bY):n=(List.replicate n x).length:=by rw [List.length_replicate]
theorem hy {bY:Type} {raw:List (List ax)} {f:bY→List ax} {l:List bY} (e:raw=l.map f) {n:Nat} (h:n=l.length):(raw.drop 0).take n=l.map f:=by
 rw [e,h,List.drop_zero,List.take_of_length_le (by simp)]
theorem gf {bY:Type} {rx np:List (List ax)} {f:bY→List ax} {xs bT:List bY} (hj:rx=xs.map f) {n:Nat} (h:n=xs.length) (hS:np=bT.map f):rx.take n++np=(xs++bT).map f:=by
 rw [hj,hS,h,List.take_of_length_le (by simp),List.map_append]
theorem Qn {bY:Type} {rx np:List (List ax)} {f:bY→List ax} {xs bT:List bY} (hj:rx=xs.map f) (n:Nat) (hS:np=bT.map f):rx.take n++np=(xs.take n++bT).map f:=by
 rw [hj,hS,List.map_append,List.map_take]
theorem cq {bY:Type} {raw:List (List ax)} {f:bY→List ax} {l:List bY} (e:raw=l.map f) {n:Nat} (h:n=l.length):0+n≤raw.length:=by rw [e,h];simp
theorem ia {bY:Type} {raw:List (List ax)} {f:bY→List ax} {l:List bY} (e:raw=l.map f) {n:Nat} (h:n=l.length):n≤raw.length:=by rw [e,h];simp
theorem Ub {bY:Type} {raw:List (List ax)} {f:bY→List ax} {l:List bY} (e:raw=l.map f):l.length=raw.length:=by rw [e];simp
theorem ib {bY:Type} {np:List (List ax)} {f:bY→List ax} {xs bT:List bY} {n:Nat} (h:n=xs.length) (hS:np=bT.map f):(xs++bT).length=n+np.length:=by rw [hS,h];simp
theorem Qo {bY:Type} {np:List (List ax)} {f:bY→List ax} {xs bT:List bY} {n:Nat} (h:n≤xs.length) (hS:np=bT.map f):(xs.take n++bT).length=n+np.length:=by rw [hS];simp;omega
theorem dv {bY:Type} {raw:List (List ax)} {f:bY→List ax} {l:List bY} (e:raw=l.map f) {n:Nat} (h:n=l.length):l.map f=(raw.drop 0).take n:=(hy e h).symm
theorem PA {bY:Type} {f:bY→List ax} (bQ : ∀x,∀v∈f x,Pure v) {sz:Nat} (l:List bY):oO [ab.mk sz (l.map f) .live]:=by
 intro R al
 rw [List.mem_singleton] at al
 subst al
 exact ⟨cn bQ l,rfl⟩
theorem TI:oO []:=by intro R al;simp at al
theorem gu {bY:Type} {raw:List (List ax)} {f:bY→List ax} {l:List bY} (e:raw=l.map f) (i:Nat) {c:List ax} (x:bY) (a8:c=f x):raw.set i c=(l.set i x).map f:=by
 rw [e,a8,List.map_set]
theorem Con.fk {P:Program} {f:FuncId} {sz:Nat} {T:List (List ab)} {r:ax} {gP:List (List ab)} (h1:Con P f [.eQ] T r gP) (h2:Con P f [.f9] T r gP):Con P f [.isl sz []] T r gP:=by
 refine ⟨h1.1,?_⟩
 intro g av w vs hw hm qN js dn d9 hargs
 have h0:0<vs.size:=by rw [d9];simp
 have a1:=hargs 0 (.isl sz []) vs[0] rfl (Array.getElem?_eq_getElem h0)
 have key : ∀y:ax,Rel w ((dw T).ok g av w) (dw T).aP ((dw T).aX av) y vs[0]→ ∀(j:Nat) x v,[y][j]? = some x→vs[j]? = some v→Rel w ((dw T).ok g av w) (dw T).aP ((dw T).aX av) x v:=by
  intro y aF j x v af a1
  match j,af,a1 with
  | 0,af,a1 =>
   obtain rfl:=Option.some.inj af
   rw [Array.getElem?_eq_getElem h0] at a1
   obtain rfl:=Option.some.inj a1
   exact aF
  | j+1,af,a1=>simp at af
 rcases a1.n4 with ⟨-,a,c,he,bH⟩|⟨cJ,off,c,-,he,-⟩
 ·cases a with
  | none =>
   have:=bH rfl
   subst this
   exact h1.2 g av w vs hw hm qN js dn d9 (key .eQ (by rw [he];exact .eQ))
  | some a=>exact h2.2 g av w vs hw hm qN js dn d9 (key .f9 (by rw [he];exact .f9 a c))
 ·exact h2.2 g av w vs hw hm qN js dn d9 (key .f9 (by rw [he];exact .f9 _ c))
end
end Go.VL
namespace Go.VL
set_option linter.unusedVariables false
set_option linter.unusedSimpArgs false
open Go Go.ChangeShapes Go.WideShapes Go.RowKit
def gI (w:World) (c:List ax) (cs:List Value):Prop :=
 cs.length=c.length∧ ∀(j:Nat) x v,c[j]? = some x→cs[j]? = some v→hM v=true∧Rel w (fun b=>b<w.heap.size) (fun _ _=>False) (fun _ _=>none) x v
theorem gI.nil (w:World):gI w [] []:=⟨rfl,fun j x v af=>by simp at af⟩
theorem gI.one {w:World} {x:ax} {v:Value} (a8:hM v=true) (h:Rel w (fun b=>b<w.heap.size) (fun _ _=>False) (fun _ _=>none) x v):gI w [x] [v]:=by
 refine ⟨rfl,fun j y u aF hu=> ?_⟩
 match j,aF,hu with
 | 0,aF,hu=>obtain rfl:=Option.some.inj aF;obtain rfl:=Option.some.inj hu;exact ⟨a8,h⟩
 | j+1,aF,hu=>simp at aF
structure k2 (P:Program) (w:World) (t:TypeId) {α:Type} (f:α→List ax) (c6:α→Prop):Prop where
 pure : ∀a,∀v∈f a,Pure v
 size : ∀a,(f a).length=P.cellsOf t
 opens : ∀ {H:Type} {enc:TypeId×Value→H} {base:Nat} {spare:Nat→Bool} {held:Bool} {lV:Nat} {cs:List Value} {x:DataW H×List MemPlace},
  DataW.trod enc P w base spare held lV t cs=some x→ ∃a,c6 a∧gI w (f a) cs
section
variable {P:Program} {w:World} {t:TypeId}
def la (x:Int):Prop:=(Lit.int .i64 x).wf=true
theorem p8 (bZ:P.underlying t=some (.int .i64)) (a8:P.cellsOf t=1):k2 P w t I la where
 pure:=a3
 size:=fun a=>a8.symm
 opens:=fun h=>by
  obtain ⟨n,rfl,-,hw⟩:=DataW.trod_int bZ h
  exact ⟨n,hw,.one rfl (.n _ _)⟩
theorem Hh (bZ:P.underlying t=some .bool) (a8:P.cellsOf t=1):k2 P w t ri (fun _=>True) where
 pure:=QN
 size:=fun a=>a8.symm
 opens:=fun h=>by
  obtain ⟨n,rfl,-⟩:=DataW.trod_bool bZ h
  exact ⟨n,trivial,.one rfl (.b _)⟩
theorem Oo (bZ:P.underlying t=some .string) (a8:P.cellsOf t=1):k2 P w t rj (fun s=>s.size≤maxLen) where
 pure:=Iv
 size:=fun a=>a8.symm
 opens:=fun h=>by
  obtain ⟨n,rfl,-,hw⟩:=DataW.trod_string bZ h
  exact ⟨n,hw,.one rfl (.s _)⟩
theorem Iw {α:Type} {Q:Nat→α→Prop} : ∀(n:Nat),(∀i,i<n→ ∃a,Q i a)→ ∃l:List α,l.length=n∧ ∀(i:Nat) a,l[i]? = some a→Q i a
 | 0,_=>⟨[],rfl,fun i a h=>by simp at h⟩
 | n+1,h=>by
  obtain ⟨l,h1,h2⟩:=Iw n fun i bj=>h i (by omega)
  obtain ⟨a,bH⟩:=h n (by omega)
  refine ⟨l++[a],by simp [h1],fun i x af=> ?_⟩
  rw [List.getElem?_append] at af
  split at af
  ·exact h2 i x af
  ·have:i=l.length:=by have:=dT af;simp at this;omega
   subst this
   simp at af;subst af;rw [h1];exact bH
theorem st {e:TypeId} {α:Type} {f:α→List ax} {c6:α→Prop} {sz:Nat} (bZ:P.underlying t=some (.slice e)) (a8:P.cellsOf t=1) (d9:P.cellsOf e=sz) (mA:0<sz) (he:k2 P w e f c6) :
 k2 P w t (tP sz f) (fun l=>l.length≤maxLen∧ ∀x∈l,c6 x) where
 pure:=QO he.pure
 size:=fun a=>a8.symm
 opens:=fun h=>by
  rcases DataW.trod_slice bZ h with ⟨rfl,-⟩|⟨a,len,cap,elems,rest,n,_,rfl,rfl,aT,aM,hm,hlen,iN,JS,Eh⟩
  ·exact ⟨[],⟨by simp,by simp⟩,.one rfl (.fk _ _ _ (fun _=>rfl))⟩
  ·subst d9
   have each : ∀i,i<len→ ∃x,c6 x∧ ∀j,j<P.cellsOf e→ ∃y v,(f x)[j]? = some y∧w.cell? ((a.add (i*P.cellsOf e)).add j)=some v∧hM v=true∧Rel w (fun b=>b<w.heap.size) (fun _ _=>False) (fun _ _=>none) y v:=by
    intro i bj
    have h1:=iN i bj
    rw [List.getElem?_eq_getElem (by omega),Option.bind_eq_some_iff] at h1
    obtain ⟨jK,h2,ag⟩:=h1
    obtain ⟨x,ap,aE,aQ⟩:=he.opens ag
    refine ⟨x,ap,fun j aS=> ?_⟩
    obtain ⟨-,bo,hl⟩:=World.cells?_some h2
    have aF:(f x)[j]? = some (f x)[j]:=List.getElem?_eq_getElem (by rw [he.size];exact aS)
    have a1:jK[j]? = some jK[j]:=List.getElem?_eq_getElem (by omega)
    obtain ⟨d1,d2⟩:=aQ j _ _ aF a1
    exact ⟨_,_,aF,by rw [hl j aS,a1],d1,d2⟩
   obtain ⟨l,tN,w5⟩:=Iw len each
   refine ⟨l,⟨by omega,fun x af=> ?_⟩,.one rfl ?_⟩
   ·obtain ⟨i,bj⟩:=List.getElem?_of_mem af
    exact (w5 i x bj).1
   ·rcases Nat.eq_zero_or_pos len with h0|h0
    ·subst h0
     have:l=[]:=List.length_eq_zero_iff.1 tN
     subst this
     exact .fk _ _ _ (by simp)
    ·obtain ⟨cJ,off,spot⟩:=a
     have Rw:spot=none∧cJ<w.heap.size:=by
      obtain ⟨x,-,h2⟩:=each 0 h0
      obtain ⟨y,v,-,ag,-⟩:=h2 0 mA
      simp only [Nat.zero_mul,Addr.add,if_true] at ag
      unfold World.cell? at ag
      cases dY:w.heap[cJ]? with
      | none=>simp [dY] at ag
      | some R =>
       have c0:=(Array.getElem?_eq_some_iff.1 dY).1
       refine ⟨?_,c0⟩
       simp only [dY] at ag
       cases R<;>simp at ag
       cases spot with
       | none=>rfl
       | some _=>simp at ag
     obtain ⟨rfl,od⟩:=Rw
     have fR:kT w (fun b=>b<w.heap.size) (fun _ _=>False) (fun _ _=>none) cJ off (P.cellsOf e) (l.map f):=by
      have hle : ∀z∈l.map f,z.length=P.cellsOf e:=by
       intro z cH
       rw [List.mem_map] at cH
       obtain ⟨x,-,rfl⟩:=cH
       exact he.size x
      refine ⟨hle,fun j x af=> ?_⟩
      have aS:j<len*P.cellsOf e:=by
       have:=dT af
       rw [nv _ hle,List.length_map,tN] at this
       exact this
      have bj:j / P.cellsOf e<len:=Nat.div_lt_of_lt_mul (by rw [Nat.mul_comm];exact aS)
      have ao:j % P.cellsOf e<P.cellsOf e:=Nat.mod_lt _ mA
      have mF:j=j / P.cellsOf e*P.cellsOf e+j % P.cellsOf e:=by rw [Nat.mul_comm];exact (Nat.div_add_mod j _).symm
      have J9:l[j / P.cellsOf e]? = some (l[j / P.cellsOf e]'(by omega)):=List.getElem?_eq_getElem _
      have SA:(l.map f)[j / P.cellsOf e]? = some (f (l[j / P.cellsOf e]'(by omega))):=Dl J9
      obtain ⟨y,v,e1,e2,bp,cp⟩:=(w5 _ _ J9).2 _ ao
      have hp:=u1 hle SA ao
      rw [← mF,af,e1] at hp
      obtain rfl:=Option.some.inj hp
      refine ⟨v,?_,bp,cp⟩
      rw [nC,nC] at e2
      rw [mF]
      rw [Nat.add_assoc] at e2
      exact e2
     have:=fR.isl (c:=cap) ⟨od,cn he.pure l⟩ (by rw [List.length_map];omega)
     rw [List.length_map,tN] at this
     exact this
theorem gI.az {bo hl:List ax} {cs:List Value} {R n:Nat} (h1:gI w bo ((cs.drop R).take n)) (h2:gI w hl (cs.drop (R+n))) (bf:bo.length=n):gI w (bo++hl) (cs.drop R):=by
 obtain ⟨e1,e2⟩:=h1
 obtain ⟨f1,f2⟩:=h2
 have Q6:cs.drop R=(cs.drop R).take n++cs.drop (R+n):=by
  rw [← List.drop_drop,List.take_append_drop]
 rw [Q6]
 refine ⟨by rw [List.length_append,List.length_append,e1,f1],fun j x v af a1=> ?_⟩
 rw [List.getElem?_append] at af a1
 rw [e1] at a1
 split at af
 ·rename_i aS
  rw [if_pos aS] at a1
  exact e2 j x v af a1
 ·rename_i aS
  rw [if_neg aS] at a1
  exact f2 _ x v af a1
theorem uK {h6:Array Field} (bZ:P.underlying t=some (.struct h6)) {H:Type} {enc:TypeId×Value→H} {base:Nat} {spare:Nat→Bool} {held:Bool} {lV:Nat} {cs:List Value} {x:DataW H×List MemPlace}
 (h:DataW.trod enc P w base spare held lV t cs=some x) :
 cs.length=P.cellsOf t∧ ∀(i:Nat) (fd:Field),h6[i]? = some fd→ ∀ {α:Type} {f:α→List ax} {c6:α→Prop},k2 P w fd.type f c6→ ∃a,c6 a∧gI w (f a) ((cs.drop fd.offset).take (P.cellsOf fd.type)):=by
 obtain ⟨xs,n,-,-,h1,h2,ag⟩:=DataW.trod_struct bZ h
 refine ⟨h1,fun i fd o1 α f c6 al=> ?_⟩
 have bj:i<xs.length:=by rw [h2];exact (Array.getElem?_eq_some_iff.1 o1).1
 have ap:=ag i fd o1
 rw [List.getElem?_eq_getElem bj] at ap
 exact al.opens ap
theorem lK {h6:Array Field} {cs:List Value}
 (h : ∀(i:Nat) (fd:Field),h6[i]? = some fd→ ∀ {α:Type} {f:α→List ax} {c6:α→Prop},k2 P w fd.type f c6→ ∃a,c6 a∧gI w (f a) ((cs.drop fd.offset).take (P.cellsOf fd.type)))
 (i off n:Nat) {fd:Field} (o1:h6[i]? = some fd) (al:fd.offset=off) (bf:P.cellsOf fd.type=n) {α:Type} {f:α→List ax} {c6:α→Prop} (R:k2 P w fd.type f c6) : ∃a,c6 a∧gI w (f a) ((cs.drop off).take n):=by
 subst al;subst bf
 exact h i fd o1 R
theorem gI.end_ {cs:List Value} {n:Nat} (h:cs.length≤n):gI w [] (cs.drop n):=by
 rw [List.drop_of_length_le h];exact .nil w
theorem Oq {x:ax} {v:Value} (h:gI w [x] v.cells.toList) (a1 : ∀cs,v≠ .agg cs):Rel w (fun b=>b<w.heap.size) (fun _ _=>False) (fun _ _=>none) x v:=by
 have a8:v.cells.toList=[v]:=by
  cases v<;>first|rfl|exact absurd rfl (a1 _)
 rw [a8] at h
 exact (h.2 0 x v rfl rfl).2
theorem O5 {c:List ax} {cs:Array Value} (h:gI w c (Value.agg cs).cells.toList):Rel w (fun b=>b<w.heap.size) (fun _ _=>False) (fun _ _=>none) (.agg c) (.agg cs):=by
 have a8:(Value.agg cs).cells.toList=cs.toList:=rfl
 rw [a8] at h
 have h2:=Rel.agg (c:=c) cs.toList h.1 (fun j v a1=>by
  have aS:=dT a1
  have af:c[j]? = some (c[j]'(by rw [← h.1];exact aS)):=List.getElem?_eq_getElem _
  exact (h.2 j _ v af a1).1) (fun j x v af a1=>(h.2 j x v af a1).2)
 simpa using h2
theorem arg_one {α:Type} {f:α→ax} {F:α→List ax} {c6:α→Prop} (al:k2 P w t F c6) (Tq : ∀a,F a=[f a]) {H:Type} {enc:TypeId×Value→H} {base:Nat} {spare:Nat→Bool} {held:Bool} {v:Value} {d:DataW H} {cm:List MemPlace}
 (h:DataW.Trod enc P w base spare held t v d cm) (a1 : ∀cs,v≠ .agg cs) : ∃a,c6 a∧Rel w (fun b=>b<w.heap.size) (fun _ _=>False) (fun _ _=>none) (f a) v:=by
 obtain ⟨lV,bQ⟩:=h
 obtain ⟨a,h1,h2⟩:=al.opens bQ
 rw [Tq] at h2
 exact ⟨a,h1,Oq h2 a1⟩
theorem arg_agg {α:Type} {F:α→List ax} {c6:α→Prop} (al:k2 P w t F c6) {H:Type} {enc:TypeId×Value→H} {base:Nat} {spare:Nat→Bool} {held:Bool} {cs:Array Value} {d:DataW H} {cm:List MemPlace}
 (h:DataW.Trod enc P w base spare held t (.agg cs) d cm) : ∃a,c6 a∧Rel w (fun b=>b<w.heap.size) (fun _ _=>False) (fun _ _=>none) (.agg (F a)) (.agg cs):=by
 obtain ⟨lV,bQ⟩:=h
 obtain ⟨a,h1,h2⟩:=al.opens bQ
 exact ⟨a,h1,O5 h2⟩
def sV (w:World) (args:List ax) (vs:List Value):Prop :=
 vs.length=args.length∧ ∀(j:Nat) x v,args[j]? = some x→vs[j]? = some v→Rel w (fun b=>b<w.heap.size) (fun _ _=>False) (fun _ _=>none) x v
theorem sV.nil:sV w [] []:=⟨rfl,fun j x v af=>by simp at af⟩
theorem sV.cons {x:ax} {v:Value} {args:List ax} {vs:List Value} (h:Rel w (fun b=>b<w.heap.size) (fun _ _=>False) (fun _ _=>none) x v) (t:sV w args vs):sV w (x::args) (v::vs):=by
 refine ⟨by simp [t.1],fun j y u aF hu=> ?_⟩
 match j,aF,hu with
 | 0,aF,hu=>obtain rfl:=Option.some.inj aF;obtain rfl:=Option.some.inj hu;exact h
 | j+1,aF,hu=>exact t.2 j y u (by simpa using aF) (by simpa using hu)
theorem trod_lt' {H:Type} {enc:TypeId×Value→H} {base:Nat} {spare:Nat→Bool} {held:Bool} {v:Value} {d:DataW H} {cm:List MemPlace} (h:DataW.Trod enc P w base spare held t v d cm) : ∀p∈cm,p.block<w.heap.size:=by
 obtain ⟨lV,bQ⟩:=h
 exact DataW.trod_lt lV t v.cells.toList (d,cm) bQ
theorem Con.row {f:FuncId} {args:List ax} {b:Bool} (h:Con P f args [] (.b b) []) {vs:List Value} (bH:sV w args vs) :
 Calls P f vs.toArray w fun e bI=>e = .returned (.bool b)∧Below w.heap.size w bI:=by
 let g:G:={ju:=w,A:=fun b=>b<w.heap.size,lH:=fun _=>False,N:=0,m:=0,lf:=(dw []).aP,m8:=(dw []).aX fun _ _=>none}
 have a5 : ∀r k,(dw []).aq r k=none:=by intro r k;simp [S.aq,dw,ca]
 have dn:fU g (dw []) (fun _ _=>none) w:=by
  have ht : ∀j k,¬(dw []).aP j k:=fun j k aS=>by simp [S.aP,dw] at aS
  refine ⟨?_,?_,?_,⟨rfl,rfl,rfl,Nat.le_refl _,fun _ _ _=>rfl⟩,?_,?_,?_,?_⟩
  ·intro r k R al;rw [a5] at al;simp at al
  ·intro r k R dj cF bP b m dQ al;rw [a5] at al;simp at al
  ·intro r k R b m al;rw [a5] at al;simp at al
  ·intro b aT;exact aT.elim
  ·intro b aT;exact aT
  ·intro j k aS;exact absurd aS (ht j k)
  ·intro j k aS;exact absurd aS (ht j k)
 have a8:=h.2 g (fun _ _=>none) w vs.toArray rfl rfl rfl rfl dn (by simpa using bH.1) (fun j x v af a1=>(bH.2 j x v af (by simpa using a1)).mono
  (fun b aT=>⟨aT,.inl aT,fun aM=>by
    obtain ⟨r,k,R,m,h1,-⟩:=aM
    rw [a5] at h1;simp at h1⟩) (fun _ _=>rfl) (fun r k ao=>ao.elim) (fun r k ao=>ao.elim))
 refine a8.mono fun e bI aR=> ?_
 obtain ⟨v,br,rfl,h1,h2⟩:=aR
 have a1:=h2.oV
 subst a1
 exact ⟨rfl,h1.fV.os,h1.fV.tape,h1.fV.output,h1.fV.size,fun k bA=>h1.fV.block k bA id⟩
end
end Go.VL
namespace Go.VL
set_option linter.unusedVariables false
set_option linter.unusedSimpArgs false
open Go
abbrev Vh:ab:=⟨0,[],.gone⟩
abbrev g6:=Option (Nat×Nat)
abbrev jV (b4 c sz:Nat) (h:g6):ax:= .gm b4 c sz h
def pn (b4 c sz:Nat) (h:g6):List ax:=[jV b4 c sz h]
theorem Dn {b4 c sz:Nat} {h:g6} (e:h=none):iw (jV b4 c sz h) (.isl sz []):=by rw [e];exact .n1 _ _ _
theorem Dp {b4 c sz:Nat} {h:g6} {p:Nat×Nat} (e:h=some p):iw (jV b4 c sz h) (.aN b4 (p.1+c) 0 p.2):=by rw [e];exact .s1 _ _ _ _ _
theorem Jh {x v:ax} (e:x=v):iw x v:=e▸ .refl x
def tF:List ax→List ax→Prop
 | [],[]=>True
 | a::l,b::m=>iw a b∧tF l m
 | _,_=>False
theorem tF.at_ : ∀ {l m:List ax},tF l m→m.length=l.length∧ ∀(j:Nat) x cb,l[j]? = some x→m[j]? = some cb→iw x cb
 | [],[],_=>⟨rfl,fun j x cb h=>by simp at h⟩
 | a::l,b::m,h=>⟨by simp [(tF.at_ h.2).1],fun j x cb af cP=>by
  cases j with
  | zero=>simp at af cP;subst af;subst cP;exact h.1
  | succ j=>exact (tF.at_ h.2).2 j x cb (by simpa using af) (by simpa using cP)⟩
 | [],_::_,h=>h.elim
 | _::_,[],h=>h.elim
theorem Q7 {l m:List ax} (h:tF l m):iw (.agg l) (.agg m):= .agg h.at_.1 h.at_.2
theorem DL {aW:Nat→Option Nat} {b4 iE c sz:Nat} (bZ:aW b4=some iE) (h:g6):jN aW (jV b4 c sz h)=jV iE c sz h:=by simp only [jV,jN,bZ]
theorem yJ {aB:e8} {b4 iE c cK sz:Nat} (hm : ∀k,aB iE (k+cK)=some (b4,k+c)) (h:g6):tC aB (jV b4 c sz h) (jV iE cK sz h):= .inr (.inr (.inr ⟨b4,c,sz,h,iE,cK,rfl,hm,rfl⟩))
theorem yK (b4 c sz:Nat) (h:g6):aK (jV b4 c sz h):= .gm _ _ _ _
def bq {α:Type} (b1:eI) (sz:Nat) (f:α→List ax) (l:List α):ab:=⟨sz,l.map f,b1⟩
section
variable {α:Type} {sz:Nat} {b1:eI} {f:α→List ax} {P:List (List α)} {raw:List ab}
theorem yL (e:raw=P.map (bq b1 sz f)) (bA:b1≠ .gone) {k:Nat} {l:List α} (h:P[k]? = some l):ca (some raw) k=some (ab.mk sz (l.map f) b1):=by
 rw [e,hH,List.getElem?_map,h];exact if_neg bA
theorem hF:eI.live≠ .gone:=by simp
theorem Kz:eI.fx≠ .gone:=by simp
theorem IW (e:raw=P.map (bq .live sz f)):ic raw=P.map (bq .fx sz f):=by rw [e];unfold ic;rw [List.map_map];rfl
theorem Uc (P:List (List α)):P.map (bq b1 sz f)=P.map (bq b1 sz f):=rfl
theorem vB (e:raw=P.map (bq b1 sz f)) (k:Nat) {l:List α} {es:List (List ax)} (aM:es=l.map f):raw.set k (ab.mk sz es b1)=(P.set k l).map (bq b1 sz f):=by
 rw [e,aM,List.map_set];rfl
theorem Q8 (b1:eI) (sz:Nat) (f:α→List ax):([]:List ab)=([]:List (List α)).map (bq b1 sz f):=rfl
theorem Q9 (e:raw=P.map (bq b1 sz f)) {n:Nat} (h:n=P.length):raw.length=n:=by rw [e,h,List.length_map]
theorem Qp (a b n:Nat) : ∀ {x:ax},Pure x→h5 a b n x=x:=by
 intro x h
 have aM : ∀c:List ax,(∀x∈c,h5 a b n x=x)→h5.tv a b n c=c:=by
  intro c a8
  rw [yu]
  exact (List.map_congr_left a8).trans (List.map_id _)
 induction h with
 | agg h ih=>rw [h5,aM _ ih]
 | cz h ih=>rw [h5,aM _ ih]
 | _=>rfl
theorem Qq (aj : ∀x,∀v∈f x,Pure v) (a b n:Nat) {es:List (List ax)} {l:List α} (e:es=l.map f):es.map (fun e=>e.map (h5 a b n))=l.map f:=by
 rw [e,List.map_map]
 refine List.map_congr_left fun x _=> ?_
 exact (List.map_congr_left fun v a1=>Qp a b n (aj x v a1)).trans (List.map_id _)
theorem Ra (e:raw=P.map (bq b1 sz f)) {Q:List (List α)} {r2:List ab} (h:r2=Q.map (bq b1 sz f)):raw++r2=(P++Q).map (bq b1 sz f):=by rw [e,h,List.map_append]
theorem Ji (aj : ∀x,∀v∈f x,Pure v) (a b n:Nat) {es:List (List ax)} {l:List α} (h:es=l.map f) {r2:List ab} {Q:List (List α)} (t:r2.map (jh a b n)=Q.map (bq b1 sz f)) :
 (ab.mk sz es b1::r2).map (jh a b n)=(l::Q).map (bq b1 sz f):=by
 simp only [List.map_cons,t,jh,Qq aj a b n h];rfl
theorem Rx (a b n:Nat):([]:List ab).map (jh a b n)=([]:List (List α)).map (bq b1 sz f):=rfl
def nc (P:List (List α)):g6→List α
 | none=>[]
 | some (k,n)=>(P.getD k []).take n
def o6 (P:List (List α)):g6→Bool
 | none=>true
 | some (k,n)=>decide (k<P.length) && decide (n≤(P.getD k []).length)
def qU (b4:Nat) (fh:List ab) (bs:eI→Bool):List ax→List ax→Prop
 | [],[]=>True
 | a::l,b::m=>wv b4 fh bs a b∧qU b4 fh bs l m
 | _,_=>False
theorem Ix {b4:Nat} {fh:List ab} {bs:eI→Bool} : ∀ {l m:List ax},qU b4 fh bs l m→m.length=l.length
 | [],[],_=>rfl
 | _::_,_::_,h=>by simp [Ix h.2]
 | [],_::_,h=>h.elim
 | _::_,[],h=>h.elim
theorem IX {b4:Nat} {fh:List ab} {bs:eI→Bool} : ∀ {l m:List ax},qU b4 fh bs l m→ ∀(j:Nat) x cb,l[j]? = some x→m[j]? = some cb→wv b4 fh bs x cb
 | _::_,_::_,h,0,x,cb,h1,h2=>by simp at h1 h2;subst h1;subst h2;exact h.1
 | _::_,_::_,h,j+1,x,cb,h1,h2=>IX h.2 j x cb (by simpa using h1) (by simpa using h2)
 | [],_,_,_,_,_,h1,_=>by simp at h1
theorem IY {b4:Nat} {fh:List ab} {bs:eI→Bool} {x:ax} (h:x.ha=true):wv b4 fh bs x x:= .inl ⟨rfl,h⟩
theorem yM {b4 c:Nat} {f7:List ab} {bs:eI→Bool} (e:raw=P.map (bq b1 sz f)) (aj : ∀x,∀v∈f x,Pure v) (a8:f7.length=c) (bA:b1≠ .gone) (bH:bs b1=true) : ∀ {h:g6},o6 P h=true →
 wv b4 (f7++raw) bs (jV b4 c sz h) (.isl sz ((nc P h).map f))
 | none,_=> .inr (.inl ⟨c,sz,rfl,rfl⟩)
 | some (k,n),jg=>by
  simp only [o6,Bool.and_eq_true,decide_eq_true_eq] at jg
  obtain ⟨h1,h2⟩:=jg
  have Ka:P[k]? = some P[k]:=List.getElem?_eq_getElem h1
  have ef:P.getD k []=P[k]:=by simp [List.getD,Ka]
  rw [ef] at h2
  refine .inr (.inr ⟨k+c,0,n,ab.mk sz (P[k].map f) b1,.inr ⟨c,sz,k,rfl,rfl,rfl⟩,?_,bH,by simpa using h2,?_,?_⟩)
  ·have:=yL e bA Ka
   rw [hH] at this ⊢
   rw [List.getElem?_append_right (by omega),a8,show k+c-c=k by omega]
   exact this
  ·intro e he x af
   rw [List.drop_zero] at he
   have he:=List.mem_of_mem_take he
   rw [List.mem_map] at he
   obtain ⟨y,-,rfl⟩:=he
   exact aj y x af
  ·simp only [nc,ef,List.drop_zero,List.map_take]
end
theorem hK {α β:Type} {f:α→List ax} {g:β→List ax} {v:α→β} {b4:Nat} {fh:List ab} {bs:eI→Bool} {sz:Nat} {raw:List (List ax)} {xs:List α} (e:raw=xs.map f) (ef : ∀y,(g y).length=sz)
 (h : ∀x∈xs,qU b4 fh bs (f x) (g (v x))) {n:Nat} (bf:n=xs.length):zt b4 fh bs sz ((raw.drop 0).take n) ((xs.map v).map g):=by
 have e0:(raw.drop 0).take n=xs.map f:=by rw [List.drop_zero,bf,e,List.take_of_length_le (by simp)]
 rw [e0]
 have bQ : ∀x∈xs,(f x).length=sz:=fun x af=>by rw [← Ix (h x af),ef]
 refine ⟨by simp,fun e he=> ?_,fun j x cb af cP=> ?_⟩
 ·rw [List.mem_map] at he;obtain ⟨y,-,rfl⟩:=he;exact ef y
 ·rcases Nat.eq_zero_or_pos sz with h0|cy
  ·have : ∀l:List α,(∀x∈l,(f x).length=sz)→(l.map f).flatten=[]:=by
    intro l aM
    induction l with
    | nil=>rfl
    | cons a l ih =>
     have h1:=aM a (by simp)
     rw [h0] at h1
     rw [List.map_cons,List.flatten_cons,ih fun x af=>aM x (by simp [af]),List.length_eq_zero_iff.1 h1];rfl
   rw [this xs bQ] at af;simp at af
  ·rw [me cy _ (by intro e he;rw [List.mem_map] at he;obtain ⟨y,aF,rfl⟩:=he;exact bQ y aF)] at af
   rw [me cy _ (by intro e he;rw [List.mem_map] at he;obtain ⟨y,-,rfl⟩:=he;exact ef y)] at cP
   rw [List.getElem?_map,List.getElem?_map] at cP
   rw [List.getElem?_map] at af
   cases aF:xs[j / sz]? with
   | none=>rw [aF] at af;simp at af
   | some y =>
    rw [aF] at af cP
    simp only [Option.map_some,Option.bind_some] at af cP
    exact IX (h y (List.mem_of_getElem? aF)) _ x cb af cP
theorem T7 {b4:Nat} {fh:List ab} {bs:eI→Bool} {sz:Nat} {α:Type} {f:α→List ax} {raw:List (List ax)} {l:List α} (e:raw=l.map f) (aM : ∀x,(f x).length=sz) (bf : ∀x,∀v∈f x,v.ha=true) {bD n:Nat} (iW:bD+n≤raw.length) :
 zt b4 fh bs sz ((raw.drop bD).take n) (((l.drop bD).take n).map f):=by
 have e1:(raw.drop bD).take n=((l.drop bD).take n).map f:=by rw [e,List.map_take,List.map_drop]
 rw [e1]
 refine ⟨rfl,fun e he=> ?_,fun j x cb af cP=> ?_⟩
 ·rw [List.mem_map] at he;obtain ⟨y,-,rfl⟩:=he;exact aM y
 ·rw [af] at cP;simp at cP;subst cP
  obtain ⟨e,he,mD⟩:=nW af
  rw [List.mem_map] at he;obtain ⟨y,-,rfl⟩:=he
  exact .inl ⟨rfl,bf y x mD⟩
section
variable {aW:Nat→Option Nat}
theorem jo:([]:List ab)=([]:List ab).map (kq aW):=rfl
theorem df {R bP:ab} {l eY:List ab} (h:bP=kq aW R) (t:eY=l.map (kq aW)):bP::eY=(R::l).map (kq aW):=by rw [h,t];rfl
theorem Jj {α:Type} {sz:Nat} {b1:eI} {f hT:α→List ax} {raw:List (List ax)} {xs:List α} (e:raw=xs.map f) (h : ∀x,(f x).map (jN aW)=hT x):ab.mk sz (xs.map hT) b1=kq aW (ab.mk sz raw b1):=by
 simp only [kq,e,List.map_map,ab.mk.injEq,true_and,and_true]
 exact List.map_congr_left fun x _=>(h x).symm
theorem fs {α:Type} {b1:eI} {sz:Nat} {f:α→List ax} {raw:List ab} {P:List (List α)} (e:raw=P.map (bq b1 sz f)) (h : ∀x,(f x).map (jN aW)=f x):P.map (bq b1 sz f)=raw.map (kq aW):=by
 rw [e,List.map_map]
 refine List.map_congr_left fun l _=> ?_
 exact Jj rfl h
theorem Uf {α:Type} (sz:Nat) (f:α→List ax) (R:Option α):jN aW (ep sz f R)=ep sz f R:=by cases R<;>rfl
theorem kW:eF []:=fun R h=>by simp at h
theorem er {R:ab} {l:List ab} (h:R.b1 = .live) (t:eF l):eF (R::l):=fun p aj=>by
 rcases List.mem_cons.1 aj with e|e
 ·rw [e];exact .inl h
 ·exact t p e
theorem TR {R:ab} {l:List ab} (h:R.b1 = .gone) (t:eF l):eF (R::l):=fun p aj=>by
 rcases List.mem_cons.1 aj with e|e
 ·rw [e];exact .inr h
 ·exact t p e
theorem gr {α:Type} {sz:Nat} {f:α→List ax} {raw:List ab} {P:List (List α)} (e:raw=P.map (bq .live sz f)):eF raw:=fun R al=>by
 rw [e,List.mem_map] at al;obtain ⟨l,-,rfl⟩:=al;exact .inl rfl
end
section
variable {aB:e8}
theorem Ud:tD aB [] []:=⟨rfl,fun k R bP h=>by simp at h⟩
def Kb (aB:e8) (R bP:ab):Prop:=bP.sz=R.sz∧bP.b1=R.b1∧bP.es.length=R.es.length∧(∀e∈bP.es,e.length=R.sz) ∧
 ∀(j:Nat) x cb,R.es.flatten[j]? = some x→bP.es.flatten[j]? = some cb→tC aB x cb
theorem T8 {R bP:ab} {l eY:List ab} (h:Kb aB R bP) (t:tD aB l eY):tD aB (R::l) (bP::eY):=by
 refine ⟨by simp [t.1],fun k p ig aj ko=> ?_⟩
 cases k with
 | zero=>simp at aj ko;subst aj;subst ko;exact h
 | succ k=>exact t.2 k p ig (by simpa using aj) (by simpa using ko)
def o7 (aB:e8):List ax→List ax→Prop
 | [],[]=>True
 | a::l,b::m=>tC aB a b∧o7 aB l m
 | _,_=>False
theorem Iy : ∀ {l m:List ax},o7 aB l m→m.length=l.length
 | [],[],_=>rfl
 | _::_,_::_,h=>by simp [Iy h.2]
 | [],_::_,h=>h.elim
 | _::_,[],h=>h.elim
theorem IZ : ∀ {l m:List ax},o7 aB l m→ ∀(j:Nat) x cb,l[j]? = some x→m[j]? = some cb→tC aB x cb
 | _::_,_::_,h,0,x,cb,h1,h2=>by simp at h1 h2;subst h1;subst h2;exact h.1
 | _::_,_::_,h,j+1,x,cb,h1,h2=>IZ h.2 j x cb (by simpa using h1) (by simpa using h2)
 | [],_,_,_,_,_,h1,_=>by simp at h1
theorem I0 {x:ax} (h:x.ha=true):tC aB x x:= .inl ⟨rfl,h⟩
theorem Ry {α:Type} {sz:Nat} {b1:eI} {f hT:α→List ax} {raw:List (List ax)} {xs:List α} (e:raw=xs.map f) (aM : ∀x,(hT x).length=sz) (h : ∀x,o7 aB (f x) (hT x)):Kb aB (ab.mk sz raw b1) (ab.mk sz (xs.map hT) b1):=by
 subst e
 refine ⟨rfl,rfl,by simp,fun e he=> ?_,fun j x cb af cP=> ?_⟩
 ·simp only [List.mem_map] at he;obtain ⟨y,-,rfl⟩:=he;exact aM y
 ·simp only at af cP
  rcases Nat.eq_zero_or_pos sz with h0|cy
  ·have:(xs.map hT).flatten=[]:=by
    induction xs with
    | nil=>rfl
    | cons a l ih =>
     have h1:=aM a
     rw [h0] at h1
     have h2:(l.map hT).flatten=[]:=by
      clear ih af cP
      induction l with
      | nil=>rfl
      | cons b l ih =>
       have h1:=aM b
       rw [h0] at h1
       rw [List.map_cons,List.flatten_cons,ih,List.length_eq_zero_iff.1 h1];rfl
     rw [List.map_cons,List.flatten_cons,h2,List.length_eq_zero_iff.1 h1];rfl
   rw [this] at cP;simp at cP
  ·have SB : ∀x,(f x).length=sz:=fun x=>by rw [← Iy (h x),aM]
   rw [me cy _ (by intro e he;rw [List.mem_map] at he;obtain ⟨y,-,rfl⟩:=he;exact SB y)] at af
   rw [me cy _ (by intro e he;rw [List.mem_map] at he;obtain ⟨y,-,rfl⟩:=he;exact aM y)] at cP
   rw [List.getElem?_map] at af cP
   cases aF:xs[j / sz]? with
   | none=>rw [aF] at af;simp at af
   | some y =>
    rw [aF] at af cP
    simp only [Option.map_some,Option.bind_some] at af cP
    exact IZ (h y) _ x cb af cP
theorem Qr {l:List ax} (h : ∀v∈l,v.ha=true):o7 aB l l:=by
 induction l with
 | nil=>trivial
 | cons a l ih=>exact ⟨.inl ⟨rfl,h a (by simp)⟩,ih fun v a1=>h v (by simp [a1])⟩
theorem T9 {α:Type} {b1:eI} {sz:Nat} {f:α→List ax} {raw:List ab} {P:List (List α)} (e:raw=P.map (bq b1 sz f)) (aM : ∀x,(f x).length=sz) (bf : ∀x,∀v∈f x,v.ha=true):tD aB raw (P.map (bq b1 sz f)):=by
 subst e
 refine ⟨rfl,fun k R bP al cT=> ?_⟩
 rw [al] at cT;simp at cT;subst cT
 rw [List.getElem?_map,Option.map_eq_some_iff] at al
 obtain ⟨l,-,rfl⟩:=al
 exact Ry rfl aM fun x=>Qr (bf x)
end
theorem e4:eL []:=fun row h=>by simp at h
theorem e3 {row:List ab} {T:List (List ab)} (h : ∀R∈row,∀e∈R.es,∀x∈e,aK x) (t:eL T):eL (row::T):=fun r ao=>by
 rcases List.mem_cons.1 ao with e|e
 ·rw [e];exact h
 ·exact t r e
theorem gJ : ∀R∈([]:List ab),∀e∈R.es,∀x∈e,aK x:=fun R h=>by simp at h
theorem d6 {R:ab} {row:List ab} (h : ∀e∈R.es,∀x∈e,aK x) (t : ∀R∈row,∀e∈R.es,∀x∈e,aK x) : ∀p∈R::row,∀e∈p.es,∀x∈e,aK x:=fun p aj=>by
 rcases List.mem_cons.1 aj with e|e
 ·rw [e];exact h
 ·exact t p e
theorem dW {α:Type} {sz:Nat} {b1:eI} {f:α→List ax} {xs:List α} (h : ∀x,∀v∈f x,aK v) : ∀e∈(ab.mk sz (xs.map f) b1).es,∀x∈e,aK x:=fun e he x af=>by
 simp only [List.mem_map] at he;obtain ⟨y,-,rfl⟩:=he;exact h y x af
theorem jn {α:Type} {b1:eI} {sz:Nat} {f:α→List ax} {P:List (List α)} (h : ∀x,∀v∈f x,aK v) : ∀R∈P.map (bq b1 sz f),∀e∈R.es,∀x∈e,aK x:=fun R al=>by
 rw [List.mem_map] at al;obtain ⟨l,-,rfl⟩:=al;exact dW h
theorem fu : ∀x,∀v∈I x,aK v:=fun x v h=>by simp [I] at h;subst h;exact .n _ _
theorem Ug : ∀x,∀v∈ri x,aK v:=fun x v h=>by simp [ri] at h;subst h;exact .b _
theorem Uh : ∀x,∀v∈rj x,aK v:=fun x v h=>by simp [rj] at h;subst h;exact .s _
theorem ev : ∀x,∀v∈I x,v.ha=true:=fun x v h=>by simp [I] at h;subst h;rfl
theorem Ui : ∀x,∀v∈ri x,v.ha=true:=fun x v h=>by simp [ri] at h;subst h;rfl
theorem Uj : ∀x,∀v∈rj x,v.ha=true:=fun x v h=>by simp [rj] at h;subst h;rfl
theorem Ua {l:List ax} (h : ∀x∈l,aK x):aK (.cz l):= .cz h
theorem yl : ∀x∈([]:List ax),aK x:=fun x h=>by simp at h
theorem ml {a:ax} {l:List ax} (h:aK a) (t : ∀x∈l,aK x) : ∀x∈a::l,aK x:=fun x af=>by
 rcases List.mem_cons.1 af with e|e
 ·rw [e];exact h
 ·exact t x e
theorem Uk {aW:Nat→Option Nat} {b4 iE c sz:Nat} (bZ:aW b4=some iE) (h:g6):(pn b4 c sz h).map (jN aW)=pn iE c sz h:=by simp only [pn,List.map_cons,List.map_nil,DL bZ]
theorem Ul {aB:e8} {b4 iE c cK sz:Nat} (hm : ∀k,aB iE (k+cK)=some (b4,k+c)) (h:g6):o7 aB (pn b4 c sz h) (pn iE cK sz h):=⟨yJ hm h,trivial⟩
theorem Um (b4 c sz:Nat) : ∀x,∀v∈pn b4 c sz x,aK v:=fun x v h=>by simp [pn] at h;subst h;exact yK _ _ _ x
theorem UG {α:Type} {sz:Nat} {b1:eI} {f:α→List ax} {P:List (List α)} {raw:List ab} {b4 c:Nat} {f7:List ab} {bs:eI→Bool} (e:raw=P.map (bq b1 sz f)) (aj : ∀x,∀v∈f x,Pure v) (a8:f7.length=c) (bA:b1≠ .gone) (bH:bs b1=true)
 {h:g6} (bj:o6 P h=true):qU b4 (f7++raw) bs (pn b4 c sz h) (tP sz f (nc P h)):=⟨yM e aj a8 bA bH bj,trivial⟩
theorem hL {α:Type} {p:α→Bool} {l:List α} (h:l.all p=true) : ∀x∈l,p x=true:=List.all_eq_true.1 h
theorem Un {bY:Type} {sz:Nat} {f:bY→List ax} : ∀l,∀v∈tP sz f l,v.ha=true:=fun l v h=>by simp [tP] at h;subst h;rfl
theorem Uo {bY:Type} {sz:Nat} {f:bY→List ax} : ∀l,∀v∈ea sz f l,v.ha=true:=fun l v h=>by simp [ea] at h;subst h;rfl
theorem dg {α:Type} {f:α→List ax} (h : ∀x,∀v∈f x,v.ha=true) {aW:Nat→Option Nat} (x:α):(f x).map (jN aW)=f x:=by
 refine (List.map_congr_left fun v a1=> ?_).trans (List.map_id _)
 have:=h x v a1
 cases v<;>simp [ax.ha] at this<;>simp [jN,ax.ha]
theorem Ue : ∀x,∀v∈zd x,v.ha=true:=fun x v h=>by simp [zd] at h;subst h;rfl
end Go.VL
namespace Go.VL
set_option linter.unusedVariables false
set_option linter.unusedSimpArgs false
open Go
def o:Nat→List (eS×Bool)→List (eS×Bool)
 | 0,l=>l
 | n+1,l=>To::o n l
def ch:Nat→List (eS×Bool)→List (eS×Bool)
 | 0,l=>l
 | n+1,l=>Tp::ch n l
def ad (a:eS) (l:List (eS×Bool)):List (eS×Bool):=(a,true)::l
def a7 (n:Nat) (r:ax) (b5:Bool) (b6:List Nat:=[]):eS:= .call {ac:=List.replicate n ii,r:=r,b5:=b5,b6:=b6}
def bB:List Nat→List (Nat×iH)
 | []=>[]
 | n::l=>(n,ii)::bB l
def e6 (n:Nat):iH:= .bo (.bX (.len n))
structure dB where
 x:Option Nat
 env:List (Nat×ax)
 rows:List (List ab)
def dB.e (R:dB):rh:=match R.x with
 | some i=> .exit i
 | none=> .ret
def dB.dq (R:dB):S:=dy R.env R.rows
def dB.fo (R:dB):bE:= .sub R.e R.env R.rows
theorem dB.ne (R:dB):R.e.x≠ .normal:=by
 unfold dB.e;split<;>simp [rh.x]
section
variable {P:Program} {N m:Nat} {α β:Type}
def eg (P:Program) (N m f:Nat) (p:List Nat) (s:S) (head:α→S) (out:β→dB):α⊕β→Prop
 | .inl a=>gM P N m (nodeAt (Dz P f) p) .normal s (head a)
 | .inr r=>gM P N m (nodeAt (Dz P f) p) (out r).e.x s (out r).dq
def eh (P:Program) (N m f:Nat) (p:List Nat) (head:α→S) (out:β→dB) (a:α) (r:β):Prop :=
 gM P N m (.loop (nodeAt (Dz P f) p)) (out r).e.x (head a) (out r).dq
theorem ej {f:Nat} {p:List Nat} {b:α→Option (α⊕β)} {head:α→S} {out:β→dB} (h : ∀a,bk (b a) (eg P N m f p (head a) head out)) {a:α} {r:β} (ao:iter b a=some r):eh P N m f p head out a r :=
 (QK (head:=head) (hj:=fun r=>(out r).e.x) (out:=fun r=>(out r).dq) (fun r=>(out r).ne) (fun a r ao=>by
   have:=h a r ao
   cases r with
   | inl cV=>exact this
   | inr dj=>exact this) a r ao).Sx
end
section
variable {a b c d e f g h i j:Prop} {l:List Prop}
theorem cd.e1 (x1:a):cd [a]:= .c x1 .nil
theorem cd.hl (x1:a) (x2:b) (t:cd l):cd (a::b::l):= .c x1 (.c x2 t)
theorem cd.e2 (x1:a) (x2:b):cd [a,b]:= .hl x1 x2 .nil
theorem cd.jk (x1:a) (x2:b) (an:c) (t:cd l):cd (a::b::c::l):= .c x1 (.hl x2 an t)
theorem cd.bp (x1:a) (x2:b) (an:c):cd [a,b,c]:= .jk x1 x2 an .nil
theorem cd.w9 (x1:a) (x2:b) (an:c) (eo:d) (t:cd l):cd (a::b::c::d::l):= .c x1 (.jk x2 an eo t)
theorem cd.cp (x1:a) (x2:b) (an:c) (eo:d):cd [a,b,c,d]:= .w9 x1 x2 an eo .nil
theorem cd.KA (x1:a) (x2:b) (an:c) (eo:d) (b2:e) (t:cd l):cd (a::b::c::d::e::l):= .c x1 (.w9 x2 an eo b2 t)
theorem cd.cM (x1:a) (x2:b) (an:c) (eo:d) (b2:e):cd [a,b,c,d,e]:= .KA x1 x2 an eo b2 .nil
theorem cd.KB (x1:a) (x2:b) (an:c) (eo:d) (b2:e) (bW:f) (t:cd l):cd (a::b::c::d::e::f::l):= .c x1 (.KA x2 an eo b2 bW t)
theorem cd.d5 (x1:a) (x2:b) (an:c) (eo:d) (b2:e) (bW:f):cd [a,b,c,d,e,f]:= .KB x1 x2 an eo b2 bW .nil
theorem cd.bh (x1:a) (x2:b) (an:c) (eo:d) (b2:e) (bW:f) (bU:g) (kc:h) (t:cd l):cd (a::b::c::d::e::f::g::h::l):= .hl x1 x2 (.KB an eo b2 bW bU kc t)
theorem cd.dP (x1:a) (x2:b) (an:c) (eo:d) (b2:e) (bW:f) (bU:g):cd [a,b,c,d,e,f,g]:= .c x1 (.d5 x2 an eo b2 bW bU)
theorem cd.gz (x1:a) (x2:b) (an:c) (eo:d) (b2:e) (bW:f) (bU:g) (kc:h):cd [a,b,c,d,e,f,g,h]:= .hl x1 x2 (.d5 an eo b2 bW bU kc)
end
section
variable {α bY:Type}
theorem aD (f:bY→List ax) (l:List bY):l.map f=l.map f:=rfl
theorem ba (l:List bY):l.length=l.length:=rfl
theorem cA (b1:eI) (sz:Nat) (f:bY→List ax) (P:List (List bY)):P.map (bq b1 sz f)=P.map (bq b1 sz f):=rfl
theorem gT (x:α):x=x:=rfl
theorem bG:true=true:=rfl
theorem fP:false=false:=rfl
theorem cB (f:bY→List ax) {l:List bY} {i:Nat} {x:bY} (h:l[i]? = some x):(l.map f)[i]? = some (f x):=Dl h
theorem dd (f:bY→List ax) {l:List bY} {j:Int} (h:j<l.length):j<((l.map f).length:Nat):=Iu h
theorem g7 (f:bY→List ax) {l:List bY} {j:Nat} (h:j<l.length):j<(l.map f).length:=IV h
theorem eb (sz:Nat) (b1:eI) {raw:List (List ax)} {f:bY→List ax} {l:List bY} (e:raw=l.map f):[ab.mk sz raw b1]=[ab.mk sz (l.map f) b1]:=QM e
theorem bJ (sz:Nat) (b1:eI) {f:bY→List ax} (bQ : ∀x,∀v∈f x,Pure v) (l:List bY):vp [ab.mk sz (l.map f) b1]:=Qm bQ l
theorem ec (sz:Nat) {f:bY→List ax} (bQ : ∀x,∀v∈f x,Pure v) (l:List bY):oO [ab.mk sz (l.map f) .live]:=PA bQ l
theorem oi {sz:Nat} {f:bY→List ax} {x:Option bY} (h:x=none):iw (ep sz f x) (.dH sz none):=Jh (QQ h)
theorem hQ {sz:Nat} {f:bY→List ax} {x:Option bY} {y:bY} (h:x=some y):iw (ep sz f x) (.dH sz (some (f y))):=Jh (QR h)
theorem dh {aW:Nat→Option Nat} (sz:Nat) (b1:eI) {f:bY→List ax} (hT:bY→List ax) {raw:List (List ax)} {xs:List bY} (e:raw=xs.map f) (h : ∀x,(f x).map (jN aW)=hT x):ab.mk sz (xs.map hT) b1=kq aW (ab.mk sz raw b1):=Jj e h
end
end Go.VL
namespace Go.VL
set_option linter.unusedVariables false
set_option linter.unusedSimpArgs false
open Go
theorem cf {x:Int} (h1 : -9223372036854775808≤x) (h2:x<9223372036854775808):U x=x:=by
 simp only [U,IntKind.wrap,IntKind.signed,IntKind.bits]
 have:((2:Int) ^ 64)=18446744073709551616:=by decide
 have UH:((2:Int) ^ 63)=9223372036854775808:=by decide
 simp
 omega
theorem oP {x:Int}:la x↔ -9223372036854775808≤x∧x<9223372036854775808:=by
 have h1:IntKind.min .i64 = -9223372036854775808:=by decide
 have h2:IntKind.max .i64=9223372036854775807:=by decide
 simp only [la,Lit.wf,h1,h2,Bool.and_eq_true,decide_eq_true_eq]
 omega
theorem yc {α β:Type} {f:α→Option (α⊕β)} {s:Nat→α} {r:β} (n:Nat) : ∀(k:Nat),(∀i,k≤i→i<k+n→f (s i)=some (.inl (s (i+1))))→f (s (k+n))=some (.inr r)→iter f (s k)=some r:=by
 induction n with
 | zero =>
  intro k _ h
  rw [iter]
  simp at h
  simp [h]
 | succ n ih =>
  intro k h1 h2
  rw [iter,h1 k (Nat.le_refl _) (by omega)]
  simp
  exact ih (k+1) (fun i ag ap=>h1 i (by omega) (by omega)) (by rw [show k+1+n=k+(n+1) by omega];exact h2)
def scan {α β:Type} (t:Nat→α→Option β):Nat→List α→Option β
 | _,[]=>none
 | n,x::xs=>match t n x with
  | some b=>some b
  | none=>scan t (n+1) xs
theorem xY {α β:Type} {f:Int→Option (Int⊕β)} {t:Nat→α→Option β} {e:β} : ∀(xs:List α) (k:Nat),
 (∀n x,xs[n]? = some x→f ((k+n:Nat):Int)=some (match t (k+n) x with|some b=> .inr b|none=> .inl ((k+n+1:Nat):Int)))→f ((k+xs.length:Nat):Int)=some (.inr e)→iter f (k:Int)=some ((scan t k xs).getD e)
 | [],k,_,h=>by
  rw [iter]
  simp at h
  simp [h,scan]
 | x::xs,k,h1,h2=>by
  have ag:=h1 0 x rfl
  simp only [Nat.add_zero] at ag
  rw [iter,ag]
  simp only [scan]
  cases bZ:t k x with
  | some b=>simp
  | none =>
   simp only [Option.bind_eq_bind,Option.bind_some]
   refine xY xs (k+1) (fun n y aF=> ?_) ?_
   ·have:=h1 (n+1) y (by simpa using aF)
    rw [show k+(n+1)=k+1+n by omega] at this
    exact this
   ·rw [show k+1+xs.length=k+(x::xs).length by simp;omega];exact h2
theorem gg {α β:Type} {f:α→Option (α⊕β)} (c6:α→Prop) (m:α→Nat) (Q:β→Prop)
 (h : ∀a,c6 a→(∃cV,f a=some (.inl cV)∧c6 cV∧m cV<m a)∨ ∃r,f a=some (.inr r)∧Q r) : ∀a,c6 a→ ∃r,iter f a=some r∧Q r:=by
 have key : ∀n a,m a≤n→c6 a→ ∃r,iter f a=some r∧Q r:=by
  intro n
  induction n with
  | zero =>
   intro a hm fe
   rcases h a fe with ⟨cV,-,-,ag⟩|⟨r,h1,h2⟩
   ·omega
   ·exact ⟨r,by rw [iter,h1];rfl,h2⟩
  | succ n ih =>
   intro a hm fe
   rcases h a fe with ⟨cV,h1,h2,ag⟩|⟨r,h1,h2⟩
   ·obtain ⟨r,r1,r2⟩:=ih cV (by omega) h2
    exact ⟨r,by rw [iter,h1];exact r1,r2⟩
   ·exact ⟨r,by rw [iter,h1];rfl,h2⟩
 exact fun a fe=>key (m a) a (Nat.le_refl _) fe
theorem C2 {α:Type} {f:Int×List α→Option ((Int×List α)⊕List α)} (xs ae:List α) (h0:ae.length=xs.length)
 (DK : ∀(n:Nat) x row,xs[n]? = some x→row.length=xs.length→f ((n:Int),row)=some (.inl (((n+1:Nat):Int),row.set n x)))
 (tg : ∀row,f ((xs.length:Int),row)=some (.inr row)):iter f (0,ae)=some xs:=by
 have h:=yc (f:=f) (s:=fun n=>((n:Int),xs.take n++ae.drop n)) (r:=xs) xs.length 0 (fun i _ bj=> ?_) ?_
 ·simpa using h
 ·have iy:i<xs.length:=by omega
  rw [DK i xs[i] _ (List.getElem?_eq_getElem iy) (by simp;omega)]
  congr 3
  apply List.ext_getElem?
  intro j
  rw [List.getElem?_set]
  simp only [List.length_append,List.length_take,List.length_drop,List.getElem?_append,List.getElem?_take,List.getElem?_drop]
  by_cases aS:i=j
  ·subst aS
   have e1:min (i+1) xs.length=i+1:=by omega
   simp [e1,iy]
   omega
  ·rw [if_neg aS]
   by_cases c0:j<i
   ·have e1:j<min i xs.length:=by omega
    have e2:j<min (i+1) xs.length:=by omega
    rw [if_pos e1,if_pos e2,if_pos c0,if_pos (by omega)]
   ·have e1 : ¬j<min i xs.length:=by omega
    have e2 : ¬j<min (i+1) xs.length:=by omega
    rw [if_neg e1,if_neg e2]
    congr 1
    omega
 ·simp only [Nat.zero_add]
  rw [tg]
  simp [h0]
theorem TS {α β:Type} {f:α→Option (α⊕β)} (Q:β→Prop) (h : ∀a r,f a=some (.inr r)→Q r) : ∀a r,iter f a=some r→Q r:=by
 apply iter.partial_correctness f (fun _ r=>Q r)
 intro it ih a r ao
 cases bQ:f a with
 | none=>rw [bQ] at ao;simp at ao
 | some x =>
  rw [bQ] at ao
  cases x with
  | inl cV=>exact ih cV r ao
  | inr dj =>
   have fK:some dj=some r:=ao
   obtain rfl:=Option.some.inj fK
   exact h a _ bQ
theorem Qs {α β bY:Type} {f:α→Option (α⊕β)} {g:α→Option (α⊕bY)} (h:β→bY) (c6:α→Prop) (fe : ∀a cV,c6 a→f a=some (.inl cV)→c6 cV) (SC : ∀a,c6 a→g a=(f a).map (Sum.map id h)) :
 ∀a r,iter f a=some r→c6 a→iter g a=some (h r):=by
 apply iter.partial_correctness f (fun a r=>c6 a→iter g a=some (h r))
 intro it ih a r ao bH
 have ef:=SC a bH
 cases bQ:f a with
 | none=>rw [bQ] at ao;simp at ao
 | some x =>
  rw [bQ] at ao ef
  cases x with
  | inl cV =>
   rw [iter,ef]
   exact ih cV r ao (fe a cV bH bQ)
  | inr dj =>
   have fK:some dj=some r:=ao
   obtain rfl:=Option.some.inj fK
   rw [iter,ef]
   rfl
end Go.VL
namespace Go.VL
set_option linter.unusedVariables false
set_option linter.unusedSimpArgs false
open Go
def oe {α gq β:Type} (g:Nat→gq→α→gq⊕β) (e:gq→β):List α→Nat→gq→β
 | [],_,s=>e s
 | x::xs,n,s=>match g n s x with
  | .inl bu=>oe g e xs (n+1) bu
  | .inr b=>b
theorem HH {α gq jZ β:Type} {f:jZ→Option (jZ⊕β)} (dq:Nat→gq→jZ) (g:Nat→gq→α→gq⊕β) (e:gq→β) (c6:Nat→gq→Prop) (bT:List α)
 (h : ∀n s x,c6 n s→bT[n]? = some x→f (dq n s)=some (match g n s x with | .inl bu=> .inl (dq (n+1) bu) | .inr b=> .inr b)∧ ∀bu,g n s x = .inl bu→c6 (n+1) bu)
 (he : ∀s,c6 bT.length s→f (dq bT.length s)=some (.inr (e s))) : ∀(xs:List α) (n:Nat) (s:gq),bT.drop n=xs→n≤bT.length→c6 n s→iter f (dq n s)=some (oe g e xs n s)
 | [],n,s,a0,bf,fe=>by
  have:n=bT.length:=by
   have:=congrArg List.length a0
   simp at this
   omega
  subst this
  rw [iter,he s fe]
  rfl
 | x::xs,n,s,a0,bf,fe=>by
  have af:bT[n]? = some x:=by
   have:=congrArg (·[0]?) a0
   simpa using this
  have c0:=dT af
  obtain ⟨h1,h2⟩:=h n s x fe af
  rw [iter,h1]
  simp only [oe]
  cases ef:g n s x with
  | inr b=>rfl
  | inl bu =>
   simp only [Option.bind_eq_bind,Option.bind_some]
   refine HH dq g e c6 bT h he xs (n+1) bu ?_ (by omega) (h2 bu ef)
   rw [← List.drop_drop,a0];rfl
theorem Hi {α gq jZ β:Type} {f:jZ→Option (jZ⊕β)} (dq:Nat→gq→jZ) (g:Nat→gq→α→gq⊕β) (e:gq→β) (bT:List α)
 (h : ∀n s x,bT[n]? = some x→f (dq n s)=some (match g n s x with | .inl bu=> .inl (dq (n+1) bu) | .inr b=> .inr b))
 (he : ∀s,f (dq bT.length s)=some (.inr (e s))) (s:gq):iter f (dq 0 s)=some (oe g e bT 0 s) :=
 HH dq g e (fun _ _=>True) bT (fun n s x _ af=>⟨h n s x af,fun _ _=>trivial⟩) (fun s _=>he s) bT 0 s rfl (Nat.zero_le _) trivial
theorem Dj {α:Type} {f:Int→Option (Int⊕(Unit⊕Unit))} (xs:List α) (p:α→Bool)
 (h : ∀(n:Nat) x,xs[n]? = some x→f n=some (if p x then .inl ((n+1:Nat):Int) else .inr (.inr ()))) (he:f xs.length=some (.inr (.inl ()))) :
 iter f 0=some (if xs.all p then .inl () else .inr ()):=by
 have:=Hi (f:=f) (gq:=Unit) (fun n _=>(n:Int)) (fun _ _ x=>if p x then .inl () else .inr (.inr ())) (fun _=> .inl ()) xs (fun n _ x af=>by
  rw [h n x af]
  cases p x<;>rfl) (fun _=>he) ()
 rw [show ((0:Nat):Int)=0 from rfl] at this
 rw [this]
 congr 1
 have key : ∀(bT:List α) (n:Nat),oe (fun (_:Nat) (_:Unit) x=>if p x then Sum.inl () else Sum.inr (Sum.inr ())) (fun _=>(Sum.inl ():Unit⊕Unit)) bT n ()=if bT.all p then .inl () else .inr ():=by
  intro bT
  induction bT with
  | nil=>intro n;rfl
  | cons y bT ih =>
   intro n
   simp only [oe,List.all_cons]
   by_cases aj:p y=true
   ·simpa [aj] using ih (n+1)
   ·simp [aj]
 exact key xs 0
theorem PB {α:Type} {f:Int→Option (Int⊕(Unit⊕Int))} (xs:List α) (p:α→Bool)
 (h : ∀(n:Nat) x,xs[n]? = some x→f n=some (if p x then .inr (.inr (n:Int)) else .inl ((n+1:Nat):Int))) (he:f xs.length=some (.inr (.inl ()))) :
 ∃r,iter f 0=some r∧((∃k:Int,r = .inr k∧0≤k∧xs.any p=true)∨(r = .inl ()∧xs.any p=false)):=by
 have:=Hi (f:=f) (gq:=Unit) (fun n _=>(n:Int)) (fun n _ x=>if p x then .inr (.inr (n:Int)) else .inl ()) (fun _=> .inl ()) xs (fun n _ x af=>by
  rw [h n x af]
  cases p x<;>rfl) (fun _=>he) ()
 rw [show ((0:Nat):Int)=0 from rfl] at this
 refine ⟨_,this,?_⟩
 have key : ∀(bT:List α) (n:Nat),(∃k:Int,oe (fun (n:Nat) (_:Unit) x=>if p x then Sum.inr (Sum.inr (n:Int)) else Sum.inl ()) (fun _=>(Sum.inl ():Unit⊕Int)) bT n () = .inr k∧0≤k∧bT.any p=true) ∨
  (oe (fun (n:Nat) (_:Unit) x=>if p x then Sum.inr (Sum.inr (n:Int)) else Sum.inl ()) (fun _=>(Sum.inl ():Unit⊕Int)) bT n () = .inl ()∧bT.any p=false):=by
  intro bT
  induction bT with
  | nil=>intro n;exact .inr ⟨rfl,rfl⟩
  | cons y bT ih =>
   intro n
   simp only [oe,List.any_cons]
   by_cases aj:p y=true
   ·exact .inl ⟨n,by simp [aj],by omega,by simp [aj]⟩
   ·simpa [aj] using ih (n+1)
 exact key xs 0
theorem i1 {n:Nat} (h:(n:Int)<9223372036854775807):U ((n:Int)+1)=((n+1:Nat):Int):=by
 rw [cf (by omega) (by omega)];rfl
end Go.VL
namespace Go.VL
set_option linter.unusedVariables false
set_option linter.unusedSimpArgs false
open Go
def V:List Int→Int
 | []=>0
 | x::xs=>x+1000000000*V xs
def b0 (l:List Int):Prop:= ∀x∈l,0≤x∧x<1000000000
abbrev B (n:Nat):Int:=(1000000000:Int) ^ n
theorem i7 (n:Nat):B (n+1)=1000000000*B n:=by rw [B,B,Int.pow_succ];exact Int.mul_comm _ _
theorem kk (n:Nat):1≤B n:=by
 induction n with
 | zero=>simp [B]
 | succ n ih=>rw [i7];omega
theorem vL (m n:Nat):B (m+n)=B m*B n:=by rw [B,B,B,Int.pow_add]
theorem mq {m n:Nat} (h:m≤n):B m≤B n:=by
 induction n with
 | zero =>
  have:m=0:=by omega
  subst this
  exact Int.le_refl _
 | succ n ih =>
  by_cases hm:m=n+1
  ·subst hm;exact Int.le_refl _
  ·have h1:=ih (by omega)
   have h2:=kk n
   rw [i7]
   omega
theorem b0.tail {x:Int} {l:List Int} (h:b0 (x::l)):b0 l:=fun y aF=>h y (by simp [aF])
theorem b0.head {x:Int} {l:List Int} (h:b0 (x::l)):0≤x∧x<1000000000:=h x (by simp)
theorem b0.nil:b0 []:=fun _ h=>by simp at h
theorem b0.cons {x:Int} {l:List Int} (h:0≤x∧x<1000000000) (aM:b0 l):b0 (x::l):=fun y aF=>by
 rcases List.mem_cons.mp aF with rfl|h1
 ·exact h
 ·exact aM y h1
theorem b0.get {l:List Int} (h:b0 l) {n:Nat} {x:Int} (af:l[n]? = some x):0≤x∧x<1000000000:=h x (List.mem_of_getElem? af)
theorem b0.take {l:List Int} (h:b0 l) (n:Nat):b0 (l.take n):=fun x af=>h x (List.mem_of_mem_take af)
theorem b0.drop {l:List Int} (h:b0 l) (n:Nat):b0 (l.drop n):=fun x af=>h x (List.mem_of_mem_drop af)
theorem b0.append {l m:List Int} (h:b0 l) (cx:b0 m):b0 (l++m):=fun x af=>by
 rcases List.mem_append.mp af with h1|h1
 ·exact h x h1
 ·exact cx x h1
theorem b0.set {l:List Int} (h:b0 l) {n:Nat} {x:Int} (af:0≤x∧x<1000000000):b0 (l.set n x):=fun y aF=>by
 rcases List.mem_or_eq_of_mem_set aF with h1|rfl
 ·exact h y h1
 ·exact af
theorem b0.ED (n:Nat):b0 (List.replicate n 0):=fun x af=>by
 have:=(List.mem_replicate.mp af).2
 omega
theorem tc:V []=0:=rfl
theorem iC (x:Int) (l:List Int):V (x::l)=x+1000000000*V l:=rfl
theorem iq {l:List Int} (h:b0 l):0≤V l:=by
 induction l with
 | nil=>simp [V]
 | cons x l ih =>
  have h1:=ih h.tail
  have h2:=h.head
  rw [iC];omega
theorem jH {l:List Int} (h:b0 l):V l<B l.length:=by
 induction l with
 | nil=>simp [V,B]
 | cons x l ih =>
  have h1:=ih h.tail
  have h2:=h.head
  rw [iC,List.length_cons,i7];omega
theorem qh (a b:List Int):V (a++b)=V a+B a.length*V b:=by
 induction a with
 | nil=>simp [V,B]
 | cons x a ih =>
  rw [List.cons_append,iC,iC,List.length_cons,i7,ih]
  grind
theorem DM (n:Nat):V (List.replicate n 0)=0:=by
 induction n with
 | zero=>rfl
 | succ n ih=>rw [List.replicate_succ,iC,ih];rfl
theorem nL {l:List Int} {n:Nat} {x y:Int} (h:l[n]? = some y):V (l.set n x)=V l+(x-y)*B n:=by
 induction l generalizing n with
 | nil=>simp at h
 | cons z l ih =>
  cases n with
  | zero =>
   simp at h
   subst h
   rw [List.set_cons_zero,iC,iC]
   simp [B]
   omega
  | succ n =>
   rw [List.set_cons_succ,iC,iC,ih (by simpa using h),i7]
   grind
theorem qo {l:List Int} {n:Nat} (h:n≤l.length):V l=V (l.take n)+B n*V (l.drop n):=by
 have:=qh (l.take n) (l.drop n)
 rw [List.take_append_drop] at this
 rw [this,List.length_take,Nat.min_eq_left h]
theorem n5 {l:List Int} {n:Nat} {x:Int} (h:l[n]? = some x):V (l.take (n+1))=V (l.take n)+B n*x:=by
 have bf:=dT h
 have:l.take (n+1)=l.take n++[x]:=by
  rw [List.take_add_one,h];rfl
 rw [this,qh,List.length_take,Nat.min_eq_left (by omega)]
 simp [V]
theorem yd {α:Type} {l:List α} {n:Nat} {x:α} (h:l[n]? = some x):l.drop n=x::l.drop (n+1):=by
 have bf:=dT h
 rw [List.getElem?_eq_getElem bf] at h
 rw [List.drop_eq_getElem_cons bf]
 simp at h
 rw [h]
theorem kY {l:List Int} {n:Nat} {x:Int} (h:l[n]? = some x):V (l.drop n)=x+1000000000*V (l.drop (n+1)):=by
 rw [yd h,iC]
def dF (l:List Int):Prop:=b0 l∧ ∀x,l.getLast? = some x→x≠0
theorem dF.UI {l:List Int} (h:dF l):b0 l:=h.1
theorem dF.nil:dF []:=⟨b0.nil,fun _ h=>by simp at h⟩
theorem dF.tail {x:Int} {l:List Int} (h:dF (x::l)):dF l:=⟨h.1.tail,fun y aF=>h.2 y (by
 cases l with
 | nil=>simp at aF
 | cons z l=>simpa using aF)⟩
theorem m3 {l:List Int} (h:dF l) (aM:l≠[]):0<V l:=by
 induction l with
 | nil=>exact absurd rfl aM
 | cons x l ih =>
  have h1:=h.1.head
  by_cases h2:l=[]
  ·subst h2
   have:=h.2 x (by simp)
   simp [V]
   omega
  ·have:=ih h.tail h2
   rw [iC]
   omega
theorem yW {l:List Int} (h:dF l) (aM:l≠[]):B (l.length-1)≤V l:=by
 induction l with
 | nil=>exact absurd rfl aM
 | cons x l ih =>
  have h1:=h.1.head
  by_cases h2:l=[]
  ·subst h2
   have:=h.2 x (by simp)
   simp [V,B]
   omega
  ·have ag:=ih h.tail h2
   have ap:(x::l).length-1=(l.length-1)+1:=by
    have:=List.length_pos_iff.mpr h2
    simp
    omega
   rw [iC,ap,i7]
   omega
def po (n:Nat):List Int:=if h:n=0 then [] else ((n % 1000000000:Nat):Int)::po (n / 1000000000)
decreasing_by exact Nat.div_lt_self (Nat.pos_of_ne_zero h) (by decide)
def L (n:Int):List Int:=po n.toNat
theorem I1 (n:Nat):dF (po n)∧V (po n)=n:=by
 induction n using Nat.strongRecOn with
 | ind n ih =>
  rw [po]
  by_cases h:n=0
  ·subst h
   simp [V,dF.nil]
  ·rw [dif_neg h]
   obtain ⟨h1,h2⟩:=ih (n / 1000000000) (Nat.div_lt_self (Nat.pos_of_ne_zero h) (by decide))
   refine ⟨⟨b0.cons (by omega) h1.1,fun x af=> ?_⟩,?_⟩
   ·by_cases ag:po (n / 1000000000)=[]
    ·rw [ag] at af h2
     simp [V] at af h2
     omega
    ·refine h1.2 x ?_
     cases ap:po (n / 1000000000) with
     | nil=>exact absurd ap ag
     | cons z l=>rw [ap] at af;simpa using af
   ·rw [iC,h2]
    omega
theorem gV (n:Int):dF (L n):=(I1 _).1
theorem fv (n:Int):b0 (L n):=(gV n).1
theorem cX {n:Int} (h:0≤n):V (L n)=n:=by
 rw [L,(I1 _).2];omega
theorem Rz {a b:List Int} (bH:dF a) (aT:dF b) (h:V a=V b):a=b:=by
 induction a generalizing b with
 | nil =>
  by_cases h1:b=[]
  ·exact h1.symm
  ·have:=m3 aT h1
   simp [V] at h
   omega
 | cons x a ih =>
  cases b with
  | nil =>
   have:=m3 bH (by simp)
   rw [h] at this
   simp [V] at this
  | cons y b =>
   have h1:=bH.1.head
   have h2:=aT.1.head
   rw [iC,iC] at h
   have ag:x=y:=by omega
   have ap:=ih bH.tail aT.tail (by omega)
   rw [ag,ap]
theorem oj {l:List Int} (h:dF l):L (V l)=l:=Rz (gV _) h (cX (iq h.1))
theorem o0 {l:List Int} {n:Int} (h:dF l) (a1:V l=n):l=L n:=by rw [← a1,oj h]
theorem lO:L 0=[]:=by rw [L,po];rfl
theorem Jk {n:Int} (h:n≤0):L n=[]:=by
 rw [L,Int.toNat_eq_zero.mpr h]
 exact lO
theorem fF {n:Int} {k:Nat} (h:0≤n):(L n).length≤k↔n<B k:=by
 constructor
 ·intro h1
  have h2:=jH (fv n)
  rw [cX h] at h2
  have:=mq h1
  omega
 ·intro h1
  by_cases h2:L n=[]
  ·rw [h2];simp
  ·have ag:=yW (gV n) h2
   rw [cX h] at ag
   have ap:=List.length_pos_iff.mpr h2
   apply Nat.le_of_not_lt
   intro aE
   have:=mq (m:=k) (n:=(L n).length-1) (by omega)
   omega
theorem dF.len {l:List Int} (h:dF l) {k:Nat}:l.length≤k↔V l<B k:=by
 have:=fF (n:=V l) (k:=k) (iq h.1)
 rwa [oj h] at this
theorem oX {n:Int}:L n=[]↔n≤0:=by
 constructor
 ·intro h
  apply Int.not_lt.mp
  intro h1
  have:=cX (n:=n) (by omega)
  rw [h] at this
  simp [V] at this
  omega
 ·exact Jk
theorem dF.pos {l:List Int} (h:dF l):0<V l↔l≠[]:=by
 constructor
 ·intro h1 h2
  subst h2
  simp [V] at h1
 ·exact m3 h
theorem dF.Dq {l:List Int} (aM:b0 l) (n:Nat) (h : ∀x,l[n]? = some x→x≠0):dF (l.take (n+1))∨l.length≤n:=by
 by_cases bf:n<l.length
 ·refine .inl ⟨aM.take _,fun x af=>h x ?_⟩
  rw [List.take_add_one,List.getElem?_eq_getElem bf,show (some l[n]).toList=[l[n]] from rfl,List.getLast?_append] at af
  rw [List.getElem?_eq_getElem bf]
  exact af
 ·exact .inr (by omega)
theorem dF.one {x:Int} (h:0<x∧x<1000000000):dF [x]:=⟨b0.cons (by omega) b0.nil,fun y aF=>by
 simp at aF
 omega⟩
theorem ym {x:Int} (h:0<x∧x<1000000000):L x=[x]:=(o0 (dF.one h) (by simp [V])).symm
def lC (a b:Int):Int:=if a<b then -1 else if b<a then 1 else 0
theorem yn {a b:List Int} (bH:dF a) (aT:dF b) (h:a.length<b.length):V a<V b:=by
 have h1:=jH bH.1
 have iF:b≠[]:=by intro h2;rw [h2] at h;simp at h
 have h2:=yW aT iF
 have:=mq (m:=a.length) (n:=b.length-1) (by omega)
 omega
theorem Iz {a b:List Int} (bH:b0 a) (aT:b0 b) {n:Nat} {x y:Int} (af:a[n]? = some x) (aF:b[n]? = some y) (h:V (a.drop (n+1))=V (b.drop (n+1))) (SD:x<y):V a<V b:=by
 have h1:=qo (Nat.le_of_lt (dT af))
 have h2:=qo (Nat.le_of_lt (dT aF))
 rw [kY af] at h1
 rw [kY aF,← h] at h2
 have ag:=jH (bH.take n)
 have ap:=iq (aT.take n)
 rw [List.length_take,Nat.min_eq_left (Nat.le_of_lt (dT af))] at ag
 have aE:=kk n
 rw [h1,h2]
 generalize V (a.drop (n+1))=t at *
 generalize V (a.take n)=p at *
 generalize V (b.take n)=q at *
 generalize B n=w at *
 have:w*(x+1000000000*t)+w≤w*(y+1000000000*t):=by
  have aQ:w*(x+1000000000*t+1)≤w*(y+1000000000*t):=Int.mul_le_mul_of_nonneg_left (by omega) (by omega)
  rw [Int.mul_add,Int.mul_one] at aQ
  exact aQ
 omega
end Go.VL
namespace Go.VL
set_option linter.unusedVariables false
set_option linter.unusedSimpArgs false
open Go
theorem H8 {α:Type} {bT:List α} {p:α→Bool} {n:Nat} {y:α} (aF:bT[n]? = some y) (h:(bT.take n).all p=true) (aj:p y=true):(bT.take (n+1)).all p=true:=by
 rw [List.take_add_one,aF,List.all_append,h]
 simp [aj]
theorem I2 {α:Type} {bT:List α} {p:α→Bool} {n:Nat} {y:α} (aF:bT[n]? = some y) (aj:p y=false):bT.all p=false:=by
 rw [List.all_eq_false]
 exact ⟨y,List.mem_of_getElem? aF,by simp [aj]⟩
theorem T1 {α β:Type} {f:Int×List β→Option ((Int×List β)⊕(List β⊕Unit))} (bT:List α) (ok:α→Bool) (h:α→β)
 (cy : ∀(n:Nat) y row,bT[n]? = some y→row.length=n→f ((n:Int),row)=some (if ok y then .inl (((n+1:Nat):Int),row++[h y]) else .inr (.inr ())))
 (he : ∀row,f ((bT.length:Int),row)=some (.inr (.inl row))):iter f (0,[])=some (if bT.all ok then .inl (bT.map h) else .inr ()):=by
 obtain ⟨r,ao,rfl⟩:=gg (f:=f) (c6:=fun w=> ∃n:Nat,w.1=n∧n≤bT.length∧w.2=(bT.take n).map h∧(bT.take n).all ok=true) (m:=fun w=>bT.length-w.1.toNat) (fun r=>r=if bT.all ok then .inl (bT.map h) else .inr ()) (by
  rintro ⟨i,row⟩ ⟨n,h1,bf,h2,ag⟩
  simp only at h1 h2
  subst h1 h2
  by_cases aM:n=bT.length
  ·subst aM
   refine .inr ⟨_,he _,?_⟩
   rw [List.take_length] at ag ⊢
   rw [ag]
   rfl
  ·have aF:=List.getElem?_eq_getElem (show n<bT.length by omega)
   have dt:((bT.take n).map h).length=n:=by simp;omega
   rw [cy n _ _ aF dt]
   by_cases al:ok bT[n]=true
   ·refine .inl ⟨_,by rw [if_pos al],⟨n+1,rfl,by omega,?_,H8 aF ag al⟩,by simp;omega⟩
    simp only
    rw [List.take_add_one,aF,show (some bT[n]).toList=[bT[n]] from rfl,List.map_append]
    rfl
   ·refine .inr ⟨_,by rw [if_neg al],?_⟩
    rw [I2 aF (by simpa using al)]
    rfl) (0,[]) ⟨0,rfl,by omega,by simp,by simp⟩
 exact ao
theorem PC {α β:Type} {f:Int×List β→Option ((Int×List β)⊕(List β⊕Unit))} (bT:List α) (ok:α→Bool) (h:α→β) (ae:List β) (h0:ae.length=bT.length)
 (cy : ∀(n:Nat) y row,bT[n]? = some y→row.length=bT.length→f ((n:Int),row)=some (if ok y then .inl (((n+1:Nat):Int),row.set n (h y)) else .inr (.inr ())))
 (he : ∀row,f ((bT.length:Int),row)=some (.inr (.inl row))):iter f (0,ae)=some (if bT.all ok then .inl (bT.map h) else .inr ()):=by
 obtain ⟨r,ao,rfl⟩:=gg (f:=f) (c6:=fun w=> ∃n:Nat,w.1=n∧n≤bT.length∧w.2.length=bT.length∧w.2.take n=(bT.take n).map h∧(bT.take n).all ok=true) (m:=fun w=>bT.length-w.1.toNat) (fun r=>r=if bT.all ok then .inl (bT.map h) else .inr ()) (by
  rintro ⟨i,row⟩ ⟨n,h1,bf,hlen,h2,ag⟩
  simp only at h1 hlen h2
  subst h1
  by_cases aM:n=bT.length
  ·subst aM
   refine .inr ⟨_,he _,?_⟩
   rw [List.take_length] at ag h2
   rw [List.take_of_length_le (by omega)] at h2
   rw [ag,h2]
   rfl
  ·have aF:=List.getElem?_eq_getElem (show n<bT.length by omega)
   rw [cy n _ _ aF hlen]
   by_cases al:ok bT[n]=true
   ·refine .inl ⟨_,by rw [if_pos al],⟨n+1,rfl,by omega,by simpa using hlen,?_,H8 aF ag al⟩,by simp;omega⟩
    simp only
    rw [List.take_add_one,List.take_add_one,aF,List.getElem?_set,if_pos rfl,if_pos (by omega),List.take_set_of_le (by omega),h2,show (some bT[n]).toList=[bT[n]] from rfl,List.map_append]
    rfl
   ·refine .inr ⟨_,by rw [if_neg al],?_⟩
    rw [I2 aF (by simpa using al)]
    rfl) (0,ae) ⟨0,rfl,by omega,h0,by simp,by simp⟩
 exact ao
theorem PD {α:Type} {P:Nat→α→Prop} : ∀(n:Nat),(∀k,k<n→ ∃y,P k y)→ ∃bT:List α,bT.length=n∧ ∀k y,bT[k]? = some y→P k y
 | 0,_=>⟨[],rfl,fun k y h=>by simp at h⟩
 | n+1,h=>by
  obtain ⟨bT,h1,h2⟩:=PD n (fun k bA=>h k (by omega))
  obtain ⟨y,aF⟩:=h n (by omega)
  refine ⟨bT++[y],by simp [h1],fun k z cH=> ?_⟩
  by_cases bA:k<bT.length
  ·rw [List.getElem?_append_left bA] at cH
   exact h2 k z cH
  ·rw [List.getElem?_append_right (by omega)] at cH
   have:k-bT.length=0:=by
    have:=dT cH
    simp at this
    omega
   rw [this] at cH
   simp at cH
   have:k=n:=by omega
   subst this
   rw [← cH]
   exact aF
end Go.VL
namespace Go.VL
set_option linter.unusedVariables false
set_option linter.unusedSimpArgs false
open Go
theorem TT {α gq jZ β:Type} {f:jZ→Option (jZ⊕β)} (dq:Nat→gq→jZ) (g:gq→α→gq) (e:gq→β) (c6:Nat→gq→Prop) (bT:List α)
 (h : ∀n s x,c6 n s→bT[n]? = some x→f (dq n s)=some (.inl (dq (n+1) (g s x)))∧c6 (n+1) (g s x))
 (he : ∀s,c6 bT.length s→f (dq bT.length s)=some (.inr (e s))) (gR:gq) (h0:c6 0 gR):iter f (dq 0 gR)=some (e (bT.foldl g gR))∧c6 bT.length (bT.foldl g gR):=by
 have key : ∀(xs:List α) (n:Nat) (s:gq),bT.drop n=xs→n≤bT.length→c6 n s→iter f (dq n s)=some (e (xs.foldl g s))∧c6 bT.length (xs.foldl g s):=by
  intro xs
  induction xs with
  | nil =>
   intro n s a0 bf fe
   have:n=bT.length:=by
    have:=congrArg List.length a0
    simp at this
    omega
   subst this
   rw [iter,he s fe]
   exact ⟨rfl,fe⟩
  | cons x xs ih =>
   intro n s a0 bf fe
   have af:bT[n]? = some x:=by
    have:=congrArg (·[0]?) a0
    simpa using this
   have c0:=dT af
   obtain ⟨h1,h2⟩:=h n s x fe af
   rw [iter,h1]
   exact ih (n+1) (g s x) (by rw [← List.drop_drop,a0];rfl) (by omega) h2
 exact key bT 0 gR rfl (Nat.zero_le _) h0
theorem TU {KI n k:Nat} (h:(List.range KI)[n]? = some k):n=k∧k<KI:=by
 have bf:=dT h
 rw [List.length_range] at bf
 rw [List.getElem?_range bf] at h
 have:=Option.some.inj h
 omega
end Go.VL
namespace Go.VL
set_option linter.unusedVariables false
set_option linter.unusedSimpArgs false
open Go
section
variable {α β bY:Type}
theorem db {R:Option β} {f:β→Option α} {x:β} {r:Option α} (h:R=some x) (k:f x=r):(R >>= f)=r:=by rw [h];exact k
theorem hU {p:Prop} [Decidable p] {x r:Option α} (h:p) (k:x=r):(if p then x else none)=r:=by rw [if_pos h];exact k
theorem i3 {b:Bool} {x y r:α} (h:b=true) (k:x=r):(if b=true then x else y)=r:=by rw [if_pos h];exact k
theorem mN {b:Bool} {x y r:α} (h:b=false) (k:y=r):(if b=true then x else y)=r:=by rw [if_neg (by rw [h];exact Bool.false_ne_true)];exact k
theorem ow {p:Prop} [Decidable p] {x y r:α} (h:p) (k:x=r):(if decide p=true then x else y)=r:=by rw [if_pos (decide_eq_true h)];exact k
theorem rk {p:Prop} [Decidable p] {x y r:α} (h : ¬p) (k:y=r):(if decide p=true then x else y)=r:=by rw [if_neg (by simpa using h)];exact k
theorem E7 {b:Bool} {x y r:α} (h1:b=true→x=r) (h2:b=false→y=r):(if b=true then x else y)=r:=by
 cases b
 ·exact h2 rfl
 ·exact h1 rfl
theorem Vi {R:Option bY} {x r:α} {f:bY→α} (h:R=none) (k:x=r):R.elim x f=r:=by rw [h];exact k
theorem Vj {R:Option bY} {y:bY} {x r:α} {f:bY→α} (h:R=some y) (k:f y=r):R.elim x f=r:=by rw [h];exact k
theorem gt {l:List α} {i:Int} {n:Nat} {x:α} (e:i=n) (h:l[n]? = some x):l[i.toNat]? = some x:=by rw [e,Int.toNat_natCast];exact h
theorem UJ {l:List α} {i:Int} {n:Nat} (e:i=n) (h:n<l.length):0≤i∧i<(l.length:Nat):=by omega
theorem UK {a b:Int} (h:a=b):(a == b)=true:=by simp [h]
theorem UL {a b:Int} (h:a≠b):(a == b)=false:=by simp [h]
theorem UM {a b:Int} (h:a≠b):(a != b)=true:=by simp [h]
theorem UN {a b:Int} (h:a=b):(a != b)=false:=by simp [h]
theorem H9 {gq jZ:Type} {f:jZ→Option (jZ⊕β)} (dq:Nat→gq→jZ) (N:Nat) (c6:Nat→gq→Prop) (Q:β→Prop)
 (h : ∀n,n<N→ ∀s,c6 n s→(∃bu,f (dq n s)=some (.inl (dq (n+1) bu))∧c6 (n+1) bu)∨(∃r,f (dq n s)=some (.inr r)∧Q r))
 (he : ∀s,c6 N s→ ∃r,f (dq N s)=some (.inr r)∧Q r) (gR:gq) (h0:c6 0 gR) : ∃r,iter f (dq 0 gR)=some r∧Q r:=by
 have key : ∀(d n:Nat) (s:gq),n+d=N→c6 n s→ ∃r,iter f (dq n s)=some r∧Q r:=by
  intro d
  induction d with
  | zero =>
   intro n s bf fe
   obtain rfl:n=N:=by omega
   obtain ⟨r,h1,h2⟩:=he s fe
   exact ⟨r,by rw [iter,h1];rfl,h2⟩
  | succ d ih =>
   intro n s bf fe
   rcases h n (by omega) s fe with ⟨bu,h1,h2⟩|⟨r,h1,h2⟩
   ·obtain ⟨r,ag,ap⟩:=ih (n+1) bu (by omega) h2
    exact ⟨r,by rw [iter,h1];exact ag,ap⟩
   ·exact ⟨r,by rw [iter,h1];rfl,h2⟩
 exact key N 0 gR (by omega) h0
theorem ve {gq jZ:Type} {f:jZ→Option (jZ⊕β)} (dq:Nat→gq→jZ) (N:Nat) (c6:Nat→gq→Prop) (e:gq→β)
 (h : ∀n,n<N→ ∀s,c6 n s→ ∃bu,f (dq n s)=some (.inl (dq (n+1) bu))∧c6 (n+1) bu)
 (he : ∀s,c6 N s→f (dq N s)=some (.inr (e s))) (gR:gq) (h0:c6 0 gR) : ∃s,iter f (dq 0 gR)=some (e s)∧c6 N s:=by
 obtain ⟨r,h1,s,rfl,h2⟩:=H9 dq N c6 (fun r=> ∃s,r=e s∧c6 N s) (fun n bf s fe=> .inl (h n bf s fe)) (fun s fe=>⟨_,he s fe,s,rfl,fe⟩) gR h0
 exact ⟨s,h1,h2⟩
end
end Go.VL
namespace Go.Proofs.YtmmbmjbpfklkcaaGreat
set_option linter.unusedVariables false
set_option linter.unusedSimpArgs false
open Go Go.VL
structure bg where
 ed:ByteArray
 eu:Int
 dV:Int
 cS:Bool
 deriving DecidableEq
structure bR where
 de:Int
 c1:Int
 eK:Int
 deriving DecidableEq
structure c4 where
 a6:(List bg)
 b9:(List bR)
 deriving DecidableEq
structure cZ where
 bM:Bool
 a9:(List Int)
 deriving DecidableEq
structure bF where
 bm:cZ
 bO:(List Int)
 deriving DecidableEq
structure bV where
 m6:cZ
 lb:(List Int)
 deriving DecidableEq
def aG (x:bg):List ax:=[.s x.ed,.n .i64 x.eu,.n .i64 x.dV,.b x.cS]
theorem mU : ∀x,∀v∈aG x,v.ha=true:=by
 intro x v a1
 simp only [aG,List.mem_cons,List.not_mem_nil,or_false] at a1
 rcases a1 with rfl|rfl|rfl|rfl<;>rfl
theorem mV : ∀x,∀v∈aG x,aK v:=fun x=>(ml (.s _) (ml (.n _ _) (ml (.n _ _) (ml (.b _) yl))))
theorem gl : ∀x,∀v∈aG x,Pure v:=by
 intro x v a1
 simp only [aG,List.mem_cons,List.not_mem_nil,or_false] at a1
 rcases a1 with rfl|rfl|rfl|rfl
 ·exact .s _
 ·exact .n _ _
 ·exact .n _ _
 ·exact .b _
def aZ (x:bR):List ax:=[.n .i64 x.de,.n .i64 x.c1,.n .i64 x.eK]
theorem mQ : ∀x,∀v∈aZ x,v.ha=true:=by
 intro x v a1
 simp only [aZ,List.mem_cons,List.not_mem_nil,or_false] at a1
 rcases a1 with rfl|rfl|rfl<;>rfl
theorem mR : ∀x,∀v∈aZ x,aK v:=fun x=>(ml (.n _ _) (ml (.n _ _) (ml (.n _ _) yl)))
theorem gk : ∀x,∀v∈aZ x,Pure v:=by
 intro x v a1
 simp only [aZ,List.mem_cons,List.not_mem_nil,or_false] at a1
 rcases a1 with rfl|rfl|rfl
 ·exact .n _ _
 ·exact .n _ _
 ·exact .n _ _
def uW (x:c4):List ax:=[.isl 4 (x.a6.map aG),.isl 3 (x.b9.map aZ)]
theorem TH : ∀x,∀v∈uW x,v.ha=true:=by
 intro x v a1
 simp only [uW,List.mem_cons,List.not_mem_nil,or_false] at a1
 rcases a1 with rfl|rfl<;>rfl
theorem uj : ∀x,∀v∈uW x,Pure v:=by
 intro x v a1
 simp only [uW,List.mem_cons,List.not_mem_nil,or_false] at a1
 rcases a1 with rfl|rfl
 ·exact .isl (cn gl _)
 ·exact .isl (cn gk _)
def sP (x:cZ):List ax:=[.b x.bM,.isl 1 (x.a9.map I)]
theorem TM : ∀x,∀v∈sP x,v.ha=true:=by
 intro x v a1
 simp only [sP,List.mem_cons,List.not_mem_nil,or_false] at a1
 rcases a1 with rfl|rfl<;>rfl
theorem N4 : ∀x,∀v∈sP x,Pure v:=by
 intro x v a1
 simp only [sP,List.mem_cons,List.not_mem_nil,or_false] at a1
 rcases a1 with rfl|rfl
 ·exact .b _
 ·exact .isl (cn a3 _)
def eTRat (x:bF):List ax:=[.b x.bm.bM,.isl 1 (x.bm.a9.map I),.isl 1 (x.bO.map I)]
theorem T2 : ∀x,∀v∈eTRat x,v.ha=true:=by
 intro x v a1
 simp only [eTRat,List.mem_cons,List.not_mem_nil,or_false] at a1
 rcases a1 with rfl|rfl|rfl<;>rfl
theorem hx : ∀x,∀v∈eTRat x,Pure v:=by
 intro x v a1
 simp only [eTRat,List.mem_cons,List.not_mem_nil,or_false] at a1
 rcases a1 with rfl|rfl|rfl
 ·exact .b _
 ·exact .isl (cn a3 _)
 ·exact .isl (cn a3 _)
def bC (x:bV):List ax:=[.b x.m6.bM,.isl 1 (x.m6.a9.map I),.isl 1 (x.lb.map I)]
theorem TN : ∀x,∀v∈bC x,v.ha=true:=by
 intro x v a1
 simp only [bC,List.mem_cons,List.not_mem_nil,or_false] at a1
 rcases a1 with rfl|rfl|rfl<;>rfl
theorem kA : ∀x,∀v∈bC x,Pure v:=by
 intro x v a1
 simp only [bC,List.mem_cons,List.not_mem_nil,or_false] at a1
 rcases a1 with rfl|rfl|rfl
 ·exact .b _
 ·exact .isl (cn a3 _)
 ·exact .isl (cn a3 _)
structure eU where
 bM:Bool
 a9:g6
def p9 (b4 c:Nat) (x:eU):List ax:=[.b x.bM,jV b4 c 1 x.a9]
theorem TJ {aW:Nat→Option Nat} {b4 iE c:Nat} (bZ:aW b4=some iE) (x:eU):(p9 b4 c x).map (jN aW)=p9 iE c x:=by
 simp only [p9,List.map_cons,List.map_nil,DL bZ];rfl
theorem TK {aB:e8} {b4 iE c cK:Nat} (hm : ∀k,aB iE (k+cK)=some (b4,k+c)) (x:eU):o7 aB (p9 b4 c x) (p9 iE cK x):=⟨I0 rfl,yJ hm _,trivial⟩
theorem TL (b4 c:Nat) : ∀x,∀v∈p9 b4 c x,aK v:=fun x=>(ml (.b _) (ml (yK _ _ _ _) yl))
def O6 (P:(List (List Int))) (x:eU):cZ:=⟨x.bM,nc P x.a9⟩
def Hj (P:(List (List Int))) (x:eU):Bool:=o6 P x.a9
theorem TO {b1:eI} {P:(List (List Int))} {raw:List ab} {b4 c:Nat} {f7:List ab} {bs:eI→Bool} (e:raw=P.map (bq b1 1 I)) (a8:f7.length=c) (bA:b1≠ .gone) (bH:bs b1=true) {x:eU} (h:Hj P x=true):qU b4 (f7++raw) bs (p9 b4 c x) (sP (O6 P x)):=by
 simp only [Hj,Bool.and_eq_true] at h
 have h0:=h
 exact ⟨IY rfl,yM e a3 a8 bA bH h0,trivial⟩
structure c7 where
 bm:eU
 bO:g6
def aw (b4 c:Nat) (x:c7):List ax:=[.b x.bm.bM,jV b4 c 1 x.bm.a9,jV b4 c 1 x.bO]
theorem fr {aW:Nat→Option Nat} {b4 iE c:Nat} (bZ:aW b4=some iE) (x:c7):(aw b4 c x).map (jN aW)=aw iE c x:=by
 simp only [aw,List.map_cons,List.map_nil,DL bZ];rfl
theorem TV {aB:e8} {b4 iE c cK:Nat} (hm : ∀k,aB iE (k+cK)=some (b4,k+c)) (x:c7):o7 aB (aw b4 c x) (aw iE cK x):=⟨I0 rfl,yJ hm _,yJ hm _,trivial⟩
theorem jm (b4 c:Nat) : ∀x,∀v∈aw b4 c x,aK v:=fun x=>(ml (.b _) (ml (yK _ _ _ _) (ml (yK _ _ _ _) yl)))
def dc (P:(List (List Int))) (x:c7):bF:=⟨⟨x.bm.bM,nc P x.bm.a9⟩,nc P x.bO⟩
def sW (P:(List (List Int))) (x:c7):Bool:=o6 P x.bm.a9 && o6 P x.bO
theorem hI {b1:eI} {P:(List (List Int))} {raw:List ab} {b4 c:Nat} {f7:List ab} {bs:eI→Bool} (e:raw=P.map (bq b1 1 I)) (a8:f7.length=c) (bA:b1≠ .gone) (bH:bs b1=true) {x:c7} (h:sW P x=true):qU b4 (f7++raw) bs (aw b4 c x) (eTRat (dc P x)):=by
 simp only [sW,Bool.and_eq_true] at h
 obtain ⟨h0,h1⟩:=h
 exact ⟨IY rfl,yM e a3 a8 bA bH h0,yM e a3 a8 bA bH h1,trivial⟩
noncomputable abbrev aY:Program:=Go.Proofs.Tryz.prog
theorem lW:aY.follows .mixedOrders=true:=Go.Proofs.Tryz.checked.mixed
theorem bz {N m:Nat} {c:Code} {E:List (Nat×ax)} {rows:List (List ab)} (tape:List bE) {e:Exit} {s:S} {aq:List Prop} (a5:cd aq)
 (h:zb aY N m c tape (dy E rows) rows.length=some (e,s,aq):=by kernel_rfl):gM aY N m c e (dy E rows) s:=HG lW h a5 (qg _ _)
theorem aU {f:FuncId} {args:List ax} {r:ax} {aq:List Prop} (tape:List bE) (a5:cd aq) (cC:iH:=ii)
 (h:v5 aY f args [] tape [] [] cC=some (r,[],aq):=by kernel_rfl):Con aY f args [] r []:=Pz lW h a5
theorem fL {f:FuncId} {args:List ax} {T gP:List (List ab)} {r:ax} {aq:List Prop} (tape:List bE) (aB:List Nat) (bN:List gj) (a5:cd aq) (cC:iH:=ii)
 (h:v5 aY f args T tape aB bN cC=some (r,gP,aq):=by kernel_rfl):Con aY f args T r gP:=H7 lW h a5
def IA (x:bg):Prop:=(fun s=>s.size≤maxLen) x.ed∧la x.eu∧la x.dV∧(fun _=>True) x.cS
theorem Nv (w:World):k2 Go.Proofs.Tryz.prog w 87 aG IA where
 pure:=gl
 size:=fun a=>by kernel_rfl
 opens:=fun h=>by
  obtain ⟨aM,bQ⟩:=uK Tryz.underlying87 h
  obtain ⟨kw,i0,bX⟩:=lK bQ 0 0 1 rfl rfl (by kernel_rfl) (Oo Tryz.underlying9 (by kernel_rfl))
  obtain ⟨fC,i1,bo⟩:=lK bQ 1 1 1 rfl rfl (by kernel_rfl) (p8 Tryz.underlying3 (by kernel_rfl))
  obtain ⟨hk,i2,hl⟩:=lK bQ 2 2 1 rfl rfl (by kernel_rfl) (p8 Tryz.underlying3 (by kernel_rfl))
  obtain ⟨dR,E8,jk⟩:=lK bQ 3 3 1 rfl rfl (by kernel_rfl) (Hh Tryz.underlying4 (by kernel_rfl))
  have bf:Go.Proofs.Tryz.prog.cellsOf 87=4:=by kernel_rfl
  exact ⟨⟨kw,fC,hk,dR⟩,⟨i0,i1,i2,E8⟩,(gI.az bX (gI.az bo (gI.az hl (gI.az jk (gI.end_ (by omega)) (by rfl)) (by rfl)) (by rfl)) (by rfl))⟩
def Ia (x:bR):Prop:=la x.de∧la x.c1∧la x.eK
theorem MO (w:World):k2 Go.Proofs.Tryz.prog w 100 aZ Ia where
 pure:=gk
 size:=fun a=>by kernel_rfl
 opens:=fun h=>by
  obtain ⟨aM,bQ⟩:=uK Tryz.underlying100 h
  obtain ⟨kw,i0,bX⟩:=lK bQ 0 0 1 rfl rfl (by kernel_rfl) (p8 Tryz.underlying3 (by kernel_rfl))
  obtain ⟨fC,i1,bo⟩:=lK bQ 1 1 1 rfl rfl (by kernel_rfl) (p8 Tryz.underlying3 (by kernel_rfl))
  obtain ⟨hk,i2,hl⟩:=lK bQ 2 2 1 rfl rfl (by kernel_rfl) (p8 Tryz.underlying3 (by kernel_rfl))
  have bf:Go.Proofs.Tryz.prog.cellsOf 100=3:=by kernel_rfl
  exact ⟨⟨kw,fC,hk⟩,⟨i0,i1,i2⟩,(gI.az bX (gI.az bo (gI.az hl (gI.end_ (by omega)) (by rfl)) (by rfl)) (by rfl))⟩
def mS (x:c4):Prop:=(fun l=>l.length≤maxLen∧ ∀x∈l,IA x) x.a6∧(fun l=>l.length≤maxLen∧ ∀x∈l,Ia x) x.b9
theorem Ml (w:World):k2 Go.Proofs.Tryz.prog w 25 uW mS where
 pure:=uj
 size:=fun a=>by kernel_rfl
 opens:=fun h=>by
  obtain ⟨aM,bQ⟩:=uK Tryz.underlying25 h
  obtain ⟨kw,i0,bX⟩:=lK bQ 0 0 1 rfl rfl (by kernel_rfl) (st (sz:=4) Tryz.underlying22 (by kernel_rfl) (by kernel_rfl) (by decide) (Nv _))
  obtain ⟨fC,i1,bo⟩:=lK bQ 1 1 1 rfl rfl (by kernel_rfl) (st (sz:=3) Tryz.underlying23 (by kernel_rfl) (by kernel_rfl) (by decide) (MO _))
  have bf:Go.Proofs.Tryz.prog.cellsOf 25=2:=by kernel_rfl
  exact ⟨⟨kw,fC⟩,⟨i0,i1⟩,(gI.az bX (gI.az bo (gI.end_ (by omega)) (by rfl)) (by rfl))⟩
def Ib (x:cZ):Prop:=(fun _=>True) x.bM∧(fun l=>l.length≤maxLen∧ ∀x∈l,la x) x.a9
theorem M4 (w:World):k2 Go.Proofs.Tryz.prog w 53 sP Ib where
 pure:=N4
 size:=fun a=>by kernel_rfl
 opens:=fun h=>by
  obtain ⟨aM,bQ⟩:=uK Tryz.underlying53 h
  obtain ⟨kw,i0,bX⟩:=lK bQ 0 0 1 rfl rfl (by kernel_rfl) (Hh Tryz.underlying4 (by kernel_rfl))
  obtain ⟨fC,i1,bo⟩:=lK bQ 1 1 1 rfl rfl (by kernel_rfl) (st (sz:=1) Tryz.underlying29 (by kernel_rfl) (by kernel_rfl) (by decide) (p8 Tryz.underlying3 (by kernel_rfl)))
  have bf:Go.Proofs.Tryz.prog.cellsOf 53=2:=by kernel_rfl
  exact ⟨⟨kw,fC⟩,⟨i0,i1⟩,(gI.az bX (gI.az bo (gI.end_ (by omega)) (by rfl)) (by rfl))⟩
def vM (x:bF):Prop:=Ib x.bm∧(fun l=>l.length≤maxLen∧ ∀x∈l,la x) x.bO
theorem Gw (w:World):k2 Go.Proofs.Tryz.prog w 55 eTRat vM where
 pure:=hx
 size:=fun a=>by kernel_rfl
 opens:=fun h=>by
  obtain ⟨aM,bQ⟩:=uK Tryz.underlying55 h
  obtain ⟨kw,i0,bX⟩:=lK bQ 0 0 2 rfl rfl (by kernel_rfl) (M4 _)
  obtain ⟨fC,i1,bo⟩:=lK bQ 1 2 1 rfl rfl (by kernel_rfl) (st (sz:=1) Tryz.underlying29 (by kernel_rfl) (by kernel_rfl) (by decide) (p8 Tryz.underlying3 (by kernel_rfl)))
  have bf:Go.Proofs.Tryz.prog.cellsOf 55=3:=by kernel_rfl
  exact ⟨⟨kw,fC⟩,⟨i0,i1⟩,(gI.az bX (gI.az bo (gI.end_ (by omega)) (by rfl)) (by rfl))⟩
end Go.Proofs.YtmmbmjbpfklkcaaGreat
