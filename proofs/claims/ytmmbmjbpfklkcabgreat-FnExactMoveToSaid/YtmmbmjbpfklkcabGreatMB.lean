/- Lemmas, plain functions of the program, and what they answer. No condition. -/
import Derived.Carry
import Derived.ChangeOld
import Derived.ChangeSlices
import Derived.LoopN
import Derived.OwnWalk
import Derived.Scope
import Derived.Test.YtmmbmjbpfklkcabGreatChecked
import Derived.Test.YtmmbmjbpfklkcabGreatMA
namespace Go.VL
set_option linter.unusedVariables false
set_option linter.unusedSimpArgs false
open Go
theorem ng {α β:Type} {f hf:α→β→Option (β×List Prop)} (bB : ∀a b z,hf a b=some z→f a b=some z) : ∀ {l:List α} {m:List β} {z:List β×List Prop},ie hf l m=some z→ie f l m=some z
 | [],[],z,h=>h
 | [],_::_,z,h=>by simp [ie] at h
 | _::_,[],z,h=>by simp [ie] at h
 | a::l,b::m,z,h=>by
  simp only [ie] at h ⊢
  split at h
  ·rename_i g5 bz dp aO h1 R
   rw [bB _ _ _ h1,ng bB R];exact h
  ·simp at h
section
variable {aH fm:Nat→Option (List ae)} (ca : ∀r row,fm r=some row→aH r=some row)
include ca
theorem sK {r k:Nat} {I:ae} (h:b5 (fm r) k=some I):b5 (aH r) k=some I:=by
 cases ao:fm r with
 | none=>rw [ao] at h;simp [b5] at h
 | some row=>rw [ca r row ao];rw [ao] at h;exact h
theorem L1 {r k:Nat} {bX:ea} {z:ae×List Prop} (h:kE (fm r) k bX=some z):kE (aH r) k bX=some z:=by
 cases ao:fm r with
 | none=>rw [ao] at h;unfold kE at h;split at h<;>simp [b5] at h
 | some row=>rw [ca r row ao];rw [ao] at h;exact h
theorem qt {aY:Nat→Option Nat} {aA:el} {bq:dV→Bool} {c:mV} {x:av} {z:av×List Prop} (h:ic fm aY aA bq c x=some z):ic aH aY aA bq c x=some z:=by
 cases c with
 | id =>
  simp only [ic] at h ⊢
  exact h
 | gE sz=>cases x<;>exact h
 | cp=>exact h
 | dP y=>exact h
 | xi sz=>exact h
 | len n=>cases x<;>exact h
 | at_ j i n=>cases x<;>exact h
 | view b8 I es =>
  cases x<;>simp only [ic,reduceCtorEq] at h ⊢
  split at h
  ·rename_i row f7 h1 R
   rw [ca _ _ h1,ca _ _ R];exact h
  ·simp at h
 | db es =>
  cases x<;>simp only [ic,reduceCtorEq] at h ⊢
  split at h
  ·rename_i I ag
   rw [sK ca ag];exact h
  ·simp at h
theorem An {aY:Nat→Option Nat} {aA:el} {bq:dV→Bool} {c:rs} {x:av} {z:av×List Prop} (h:j5 fm aY aA bq c x=some z):j5 aH aY aA bq c x=some z:=by
 cases c with
 | cb c =>
  simp only [j5] at h ⊢
  split at h
  ·rename_i bb
   rw [if_pos bb]
   split at h
   ·exact h
   ·exact h
   ·exact h
   ·exact qt ca h
  ·rename_i bb;rw [if_neg bb];exact qt ca h
 | agg l =>
  cases x<;>simp only [j5,reduceCtorEq] at h ⊢
  split at h
  ·rename_i cr ap a3
   rw [ng (fun a b z h=>qt ca h) a3];exact h
  ·simp at h
 | ptr l =>
  cases x<;>simp only [j5,reduceCtorEq] at h ⊢
  split at h
  ·rename_i I ag
   rw [sK ca ag]
   simp only
   split at h
   ·rename_i c fk
    split at h
    ·rename_i a3
     rw [if_pos a3]
     split at h
     ·rename_i cr ap fU
      rw [ng (fun a b z h=>qt ca h) fU];exact h
     ·simp at h
    ·simp at h
   ·simp at h
  ·simp at h
 | wt l =>
  simp only [j5] at h ⊢
  split at h
  ·split at h
   ·rename_i I ag
    rw [sK ca ag]
    simp only
    split at h
    ·rename_i c fk
     split at h
     ·rename_i a3
      rw [if_pos a3]
      split at h
      ·rename_i cr ap fU
       rw [ng (fun a b z h=>qt ca h) fU];exact h
      ·simp at h
     ·simp at h
    ·simp at h
   ·simp at h
  ·simp at h
theorem Eg {aY:Nat→Option Nat} {aA:el} {bq:dV→Bool} {c:h5} {x:av} {z:av×List Prop} (h:jK fm aY aA bq c x=some z):jK aH aY aA bq c x=some z:=by
 cases c with
 | bI c =>
  simp only [jK] at h ⊢
  split at h
  ·rename_i bb
   rw [if_pos bb]
   split at h
   ·exact h
   ·exact An ca h
  ·rename_i bb;rw [if_neg bb];exact An ca h
 | comp l =>
  cases x<;>simp only [jK,reduceCtorEq] at h ⊢
  all_goals
   split at h
   ·rename_i cr ap a3
    rw [ng (fun a b z h=>An ca h) a3];exact h
   ·simp at h
theorem Eh {aY:Nat→Option Nat} {aA:el} {bq:dV→Bool} {c:fA} {row:List ae} {z:List ae×List Prop} (h:fP fm aY aA bq c row=some z):fP aH aY aA bq c row=some z:=by
 cases c with
 | pure=>exact h
 | dP cl=>exact h
 | eg bt=>exact h
 | rx bt=>cases row with
  | nil=>simp [fP] at h
  | cons I l=>cases l<;>simp [fP] at h
 | drop=>cases row with
  | nil=>simp [fP] at h
  | cons I l=>cases l<;>simp [fP] at h
 | box l =>
  match row,h with
  | [I],h =>
   simp only [fP] at h ⊢
   split at h
   ·rename_i c fk
    split at h
    ·rename_i bl
     rw [if_pos bl]
     split at h
     ·rename_i cr ap a3
      rw [ng (fun a b z h=>qt ca h) a3];exact h
     ·simp at h
    ·simp at h
   ·simp at h
  | [],h=>simp [fP] at h
  | _::_::_,h=>simp [fP] at h
theorem Ai {aY:Nat→Option Nat} {aA:el} : ∀ {l:List Src} {bR:List fA} {z:List (List ae)×List Prop},iF fm aY aA l bR=some z→iF aH aY aA l bR=some z
 | [],[],z,h=>h
 | .row r::l,c::bR,z,h=>by
  simp only [iF] at h ⊢
  split at h
  ·rename_i row cF
   rw [ca r row cF]
   simp only
   split at h
   ·rename_i cl bz T aO h1 R
    rw [Eh ca h1,Ai R];exact h
   ·simp at h
  ·simp at h
 | .ap r k I::l,c::bR,z,h=>by
  simp only [iF] at h ⊢
  split at h
  ·rename_i row cF
   rw [ca r row cF]
   simp only
   split at h
   ·rename_i cl bz T aO h1 R
    rw [Eh ca h1,Ai R];exact h
   ·simp at h
  ·simp at h
 | [],_::_,z,h=>by simp [iF] at h
 | .row _::_,[],z,h=>by simp [iF] at h
 | .ap .. :: _,[],z,h=>by simp [iF] at h
omit ca in
theorem vl {pi:Nat→Option (List ae)} {aY:Nat→Option Nat} {hq:el} : ∀ {l:List Src} {bR:List fA} {T:List (List ae)} {aH fm:Nat→Option (List ae)} {z:List (Nat×List ae)×List Prop},
 (∀r row,fm r=some row→aH r=some row)→hC pi aY hq fm l bR T=some z→hC pi aY hq aH l bR T=some z
 | [],[],[],aH,fm,z,_,h=>h
 | .row q::l,c::bR,row::T,aH,fm,z,ca,h=>by
  simp only [hC] at h ⊢
  split at h
  ·rename_i cl bz h1
   split at h
   ·rename_i u aO R
    rw [vl (fun r row ao=>by split at ao<;>rename_i e<;>simp only [e,if_true,if_false]<;>first|exact ao|exact ca _ _ ao) R];exact h
   ·simp at h
  ·simp at h
 | .ap q k I::l,c::bR,row::T,aH,fm,z,ca,h=>by
  simp only [hC] at h ⊢
  split at h
  ·rename_i kZ a3
   rw [ca _ _ a3]
   simp only
   split at h
   ·rename_i bn bz h1
    split at h
    ·rename_i u aO R
     rw [vl (fun r row ao=>by split at ao<;>rename_i e<;>simp only [e,if_true,if_false]<;>first|exact ao|exact ca _ _ ao) R];exact h
    ·simp at h
   ·simp at h
  ·simp at h
 | [],[],_::_,_,_,_,_,h=>by simp [hC] at h
 | [],_::_,_,_,_,_,_,h=>by simp [hC] at h
 | .row _::_,[],_,_,_,_,_,h=>by simp [hC] at h
 | .ap .. :: _,[],_,_,_,_,_,h=>by simp [hC] at h
 | .row _::_,_::_,[],_,_,_,_,h=>by simp [hC] at h
 | .ap .. :: _,_::_,[],_,_,_,_,h=>by simp [hC] at h
omit ca in
theorem Az : ∀ {u:List (Nat×List ae)} {aH fm:Nat→Option (List ae)} {q:Nat} {row:List ae},(∀r row,fm r=some row→aH r=some row)→ra u fm q=some row→ra u aH q=some row
 | [],_,_,_,_,ca,h=>ca _ _ h
 | (r,an)::u,aH,fm,q,row,ca,h=>Az (u:=u) (fun r row ao=>by split at ao<;>rename_i e<;>simp only [e,if_true,if_false]<;>first|exact ao|exact ca _ _ ao) h
theorem Kx {aD r n:Nat} {a7 kF:fy} (h:oD fm aD r n a7=some kF):oD aH aD r n a7=some kF:=by
 unfold oD at h ⊢
 split at h
 ·rename_i dS l h1 R
  rw [Az ca h1,Az ca R];exact h
 ·simp at h
theorem Lr {P:Program} {aD:Nat} {f:FuncId} {args:List av} {bO:uz} {a7:fy} (h:qR P fm aD f args bO=some a7):qR P aH aD f args bO=some a7:=by
 unfold qR at h ⊢
 simp only at h ⊢
 split at h
 ·simp at h
 ·rename_i h7 h0
  split at h
  ·simp at h
  ·rename_i o7
   rw [if_neg o7]
   split at h
   ·rename_i tV
    rw [if_pos tV]
    split at h
    ·rename_i nw
     split at h
     ·rename_i lj bz cS eJ u c8 h1 ai ax
      rw [ng (fun a b z h=>Eg ca h) h1,ai,vl ca ax];exact h
     ·simp at h
    ·simp at h
   ·rename_i tV
    rw [if_neg tV]
    split at h
    ·rename_i lj bz T aO cS eJ u c8 h1 R ai ax
     rw [ng (fun a b z h=>Eg ca h) h1,Ai ca R,ai,vl ca ax];exact h
    ·simp at h
end
theorem mapM_congr {α β:Type} {f hf:α→Option β} : ∀ {l:List α},(∀x∈l,hf x=f x)→l.mapM hf=l.mapM f
 | [],_=>rfl
 | x::l,h=>by
  rw [List.mapM_cons,List.mapM_cons,h x (by simp),mapM_congr fun y aP=>h y (by simp [aP])]
theorem vH {P:Program} {E jE:Nat→av} {aH fm:Nat→Option (List ae)} {aD:Nat} {I:Oper} {bX:ea} {a7:fy}
 (c4 : ∀x∈I.op.operands,dm jE x=dm E x) (ca : ∀r row,fm r=some row→aH r=some row) (h:cU P jE fm aD I bX=some a7):cU P E aH aD I bX=some a7:=by
 have aX : ∀ {r k:Nat} {z:ae×List Prop},kE (fm r) k bX=some z→kE (aH r) k bX=some z:=fun h=>L1 ca h
 cases ag:I.op with
 | move x=>simp only [cU,ag] at h ⊢;rw [← c4 x (by simp [ag,Op.operands])];exact h
 | assign x=>simp only [cU,ag] at h ⊢;rw [← c4 x (by simp [ag,Op.operands])];exact h
 | pick c x y =>
  simp only [cU,ag] at h ⊢
  rw [← c4 c (by simp [ag,Op.operands]),← c4 x (by simp [ag,Op.operands]),← c4 y (by simp [ag,Op.operands])];exact h
 | alloc t=>simp only [cU,ag] at h ⊢;exact h
 | box t x=>simp only [cU,ag] at h ⊢;rw [← c4 x (by simp [ag,Op.operands])];exact h
 | load t x =>
  simp only [cU,ag] at h ⊢
  rw [← c4 x (by simp [ag,Op.operands])]
  split at h
  ·split at h
   ·rename_i aU;rw [aX aU];exact h
   ·simp at h
  ·exact h
  ·simp at h
 | store t x y =>
  simp only [cU,ag] at h ⊢
  rw [← c4 x (by simp [ag,Op.operands]),← c4 y (by simp [ag,Op.operands])]
  split at h
  ·split at h
   ·simp at h
   ·rename_i row cF
    rw [ca _ row cF];exact h
  ·simp at h
 | nilCheck x =>
  simp only [cU,ag] at h ⊢
  rw [← c4 x (by simp [ag,Op.operands])]
  split at h
  ·split at h
   ·rename_i aU;rw [aX aU];exact h
   ·simp at h
  ·exact h
  ·exact h
  ·simp at h
 | binOp op t x y g6 =>
  simp only [cU,ag] at h ⊢
  rw [← c4 x (by simp [ag,Op.operands]),← c4 y (by simp [ag,Op.operands])];exact h
 | unOp op t x=>simp only [cU,ag] at h ⊢;rw [← c4 x (by simp [ag,Op.operands])];exact h
 | convert t g6 x =>
  simp only [cU,ag] at h ⊢
  rw [← c4 x (by simp [ag,Op.operands])]
  split at h
  ·exact h
  ·rename_i r k bk len h1 R
   split at h
   ·rename_i ap ai ax
    rw [sK ca ax,ai];exact h
   ·simp at h
  ·simp at h
 | makeFunc f xj bO =>
  cases f with
  | func n =>
   simp only [cU,ag] at h ⊢
   have:bO.toList.map (dm jE)=bO.toList.map (dm E):=List.map_congr_left fun x ad=>c4 x (by simp [ag,Op.operands];right;simpa using ad)
   rw [← this];exact h
  | _=>simp [cU,ag] at h
 | makeSlice t x y =>
  simp only [cU,ag] at h ⊢
  rw [← c4 x (by simp [ag,Op.operands]),← c4 y (by simp [ag,Op.operands])];exact h
 | fieldAddr t x f =>
  simp only [cU,ag] at h ⊢
  rw [← c4 x (by simp [ag,Op.operands])]
  split at h
  ·split at h
   ·split at h
    ·simp at h
    ·rename_i cq
     rw [if_neg cq]
     split at h
     ·split at h
      ·rename_i aU;rw [aX aU];exact h
      ·simp at h
     ·exact h
     ·simp at h
   ·simp at h
  ·simp at h
 | field t x f=>simp only [cU,ag] at h ⊢;rw [← c4 x (by simp [ag,Op.operands])];exact h
 | indexAddr t x y =>
  simp only [cU,ag] at h ⊢
  rw [← c4 x (by simp [ag,Op.operands]),← c4 y (by simp [ag,Op.operands])]
  split at h
  ·split at h
   ·exact h
   ·split at h
    ·rename_i row cF
     rw [ca _ row cF];exact h
    ·simp at h
   ·simp at h
  ·simp at h
 | index t x y =>
  simp only [cU,ag] at h ⊢
  rw [← c4 x (by simp [ag,Op.operands]),← c4 y (by simp [ag,Op.operands])];exact h
 | extract x i=>simp only [cU,ag] at h ⊢;rw [← c4 x (by simp [ag,Op.operands])];exact h
 | slice t x bk a6 Cf =>
  cases Cf with
  | none =>
   simp only [cU,ag] at h ⊢
   have e1:bk.map (dm jE)=bk.map (dm E):=by
    cases bk with
    | none=>rfl
    | some y=>simp only [Option.map_some];rw [c4 y (by simp [ag,Op.operands])]
   have az:a6.map (dm jE)=a6.map (dm E):=by
    cases a6 with
    | none=>rfl
    | some y=>simp only [Option.map_some];rw [c4 y (by simp [ag,Op.operands])]
   rw [← c4 x (by simp [ag,Op.operands]),← e1,← az]
   split at h
   ·exact h
   ·split at h
    ·simp at h
    ·rename_i row cF
     rw [ca _ row cF];exact h
   ·exact h
   ·simp at h
  | some m=>simp [cU,ag] at h
 | build t cp =>
  simp only [cU,ag] at h ⊢
  have ak : ∀p∈cp.toList,dm jE p.2=dm E p.2:=fun p ak=>c4 p.2 (by
   simp only [ag,Op.operands]
   rw [← Array.mem_toList_iff]
   simp only [List.mem_map]
   exact ⟨p,ak,rfl⟩)
  split at h
  ·rename_i hn z _ _
   split at h
   ·simp at h
   ·rename_i aU
    rw [if_neg aU]
    have e:(cp.toList.mapM fun (p:Nat×Operand)=>(hn[p.1]?).map fun fd=>(fd.offset,P.cellsOf fd.type,dm jE p.2)) =
     cp.toList.mapM fun (p:Nat×Operand)=>(hn[p.1]?).map fun fd=>(fd.offset,P.cellsOf fd.type,dm E p.2):=mapM_congr fun p jP=>by rw [ak p jP]
    rw [← e];exact h
  ·simp at h
 | buildSlice t n cp =>
  simp only [cU,ag] at h ⊢
  have ak : ∀p∈cp.toList,dm jE p.2=dm E p.2:=fun p ak=>c4 p.2 (by
   simp only [ag,Op.operands]
   rw [← Array.mem_toList_iff]
   simp only [List.mem_map]
   exact ⟨p,ak,rfl⟩)
  have e:(cp.toList.map fun p=>(p.1,dm jE p.2))=cp.toList.map fun p=>(p.1,dm E p.2):=List.map_congr_left fun p jP=>by rw [ak p jP]
  rw [← e];exact h
 | call c =>
  obtain ⟨wL,args,ka⟩:=c
  cases wL with
  | builtin b =>
   cases b<;>first
    | (simp only [cU,ag] at h ⊢
       have e:args.toList.map (dm jE)=args.toList.map (dm E):=List.map_congr_left fun x ad=>c4 x (by
        simp only [ag,Op.operands,Call.operands]
        simpa using ad)
       rw [← e]
       split at h
       ·exact h
       ·split at h
        ·rename_i row cF
         rw [ca _ row cF];exact h
        ·simp at h
       ·exact h
       ·exact h
       ·simp at h)
    | simp [cU,ag] at h
  | value f=>simp [cU,ag] at h
  | invoke r m=>simp [cU,ag] at h
 | _=>simp [cU,ag] at h
theorem Ls {aH fm:Nat→Option (List ae)} (ca : ∀r row,fm r=some row→aH r=some row) {sz:Nat} {x:av} {z:List (List av)×List Prop} (h:me sz fm x=some z):me sz aH x=some z:=by
 cases x with
 | aV r k bk len =>
  simp only [me] at h ⊢
  split at h
  ·rename_i ap aX
   rw [sK ca aX];exact h
  ·simp at h
 | _=>exact h
theorem ME {P:Program} {E jE:Nat→av} {aH fm:Nat→Option (List ae)} {aD:Nat} {b:Builtin} {args:List av} {ka:List TypeId} {bX:ea} {a7:fy}
 (ca : ∀r row,fm r=some row→aH r=some row) (h:nt P jE fm aD b args ka bX=some a7):nt P E aH aD b args ka bX=some a7:=by
 unfold nt at h ⊢
 split at h
 ·split at h
  ·simp at h
  ·rename_i tL
   rw [if_neg tL]
   split at h
   ·simp at h
   ·split at h
    ·split at h
     ·simp at h
     ·rename_i a3
      rw [if_neg a3]
      split at h
      ·simp at h
      ·rename_i bA bz wx
       rw [Ls ca wx]
       simp only
       split at h
       ·exact h
       ·split at h
        ·simp at h
        ·rename_i row cF
         rw [ca _ row cF];exact h
       ·simp at h
    ·simp at h
 ·exact h
 ·simp at h
theorem MF {P:Program} {E jE:Nat→av} {aH fm:Nat→Option (List ae)} {aD:Nat} {I:Oper} {bX:ea} {a7:fy}
 (c4 : ∀x∈I.op.operands,dm jE x=dm E x) (ca : ∀r row,fm r=some row→aH r=some row) (h:q7 P jE fm aD I bX=some a7):q7 P E aH aD I bX=some a7:=by
 unfold q7 at h ⊢
 split at h
 ·rename_i b args ka ag
  split at h
  ·exact vH c4 ca h
  ·have e:args.toList.map (dm jE)=args.toList.map (dm E):=List.map_congr_left fun x ad=>c4 x (by
    simp only [ag,Op.operands,Call.operands]
    simpa using ad)
   rw [← e]
   exact ME ca h
 ·rename_i op t x y g6 ag
  have gN:=c4 x (by simp [ag,Op.operands])
  have ho:=c4 y (by simp [ag,Op.operands])
  rw [← gN,← ho]
  split at h
  ·exact h
  ·exact h
  ·exact h
  ·exact h
  ·exact h
  ·exact h
  ·simp at h
  ·exact vH c4 ca h
 ·rename_i x ag
  have gN:=c4 x (by simp [ag,Op.operands])
  rw [← gN]
  split at h
  ·exact h
  ·simp at h
  ·exact vH c4 ca h
 ·exact vH c4 ca h
theorem ol {P:Program} {s bh:S} {aD:Nat} {I:Oper} {bX:ea} {a7:fy}
 (c4 : ∀x∈I.op.operands,dm bh.E x=dm s.E x) (ca : ∀r row,bh.aH r=some row→s.aH r=some row) (ao:qL P bh aD I bX=some a7):qL P s aD I bX=some a7:=by
 unfold qL at ao ⊢
 split at ao
 ·rename_i bO
  split at ao
  ·rename_i f args ji ag
   simp only [ag] at ao c4 ⊢
   have bB:=c4 f (by simp [Op.operands,Call.operands])
   have bL:args.toList.map (dm bh.E)=args.toList.map (dm s.E):=List.map_congr_left fun x ad=>c4 x (by
    simp only [Op.operands,Call.operands]
    simp only [Array.mem_append];right;simpa using ad)
   rw [bB,bL] at ao
   split at ao
   ·exact Lr ca ao
   ·simp at ao
  ·simp at ao
 ·exact MF c4 ca ao
theorem vu {P:Program} {aD:Nat} {I:Oper} : ∀(bX:ea) (s bh:S) (a7:fy),(∀x∈I.op.operands,dm bh.E x=dm s.E x)→(∀r row,bh.aH r=some row→s.aH r=some row) →
 hk P aD I bX bh=some a7→hk P aD I bX s=some a7
 | .kf t v dZ,s,bh,a7,c4,ca,h=>by
  unfold hk at h ⊢
  split at h
  ·rename_i fe
   rw [if_pos fe]
   have iK:Operand.tmp t∈I.op.operands:=by
    unfold FB at fe
    rw [List.any_eq_true] at fe
    obtain ⟨x,ad,aU⟩:=fe
    cases x with
    | tmp u =>
     have:u=t:=by simpa using aU
     subst this
     simpa using ad
    | _=>simp at aU
   have het:bh.E t=s.E t:=c4 _ iK
   split at h
   ·rename_i r ao
    have:=vu dZ {E:=fun u=>if u=t then v else s.E u,aH:=s.aH} {E:=fun u=>if u=t then v else bh.E u,aH:=bh.aH} r (fun x ad=>by
     cases x with
     | tmp u =>
      show (if u=t then v else bh.E u)=(if u=t then v else s.E u)
      split
      ·rfl
      ·exact c4 (.tmp u) ad
     | _=>rfl) ca ao
    rw [this]
    simp only
    rw [← het];exact h
   ·simp at h
  ·simp at h
 | .pg r dZ,s,bh,a7,c4,ca,h=>by
  unfold hk at h ⊢
  split at h
  ·rename_i row cF
   rw [ca r row cF]
   simp only
   split at h
   ·rename_i kF ao
    have:=vu dZ (s.setRow r (hT row)) (bh.setRow r (hT row)) kF c4 (fun q cl aU=>by
     simp only [S.setRow] at aU ⊢
     split at aU
     ·rename_i e;rw [if_pos e];exact aU
     ·rename_i e;rw [if_neg e];exact ca q cl aU) ao
    rw [this]
    exact h
   ·simp at h
  ·simp at h
 | .uA r n dZ,s,bh,a7,c4,ca,h=>by
  unfold hk at h ⊢
  split at h
  ·rename_i kF ao
   rw [vu dZ s bh kF c4 ca ao]
   exact Kx ca h
  ·simp at h
 | .none,s,bh,a7,c4,ca,h=>by unfold hk at h ⊢;exact ol c4 ca h
 | .af b,s,bh,a7,c4,ca,h=>by unfold hk at h ⊢;exact ol c4 ca h
 | .bQ c,s,bh,a7,c4,ca,h=>by unfold hk at h ⊢;exact ol c4 ca h
 | .wu ap c,s,bh,a7,c4,ca,h=>by unfold hk at h ⊢;exact ol c4 ca h
 | .fr,s,bh,a7,c4,ca,h=>by unfold hk at h ⊢;exact ol c4 ca h
 | .call c,s,bh,a7,c4,ca,h=>by unfold hk at h ⊢;exact ol c4 ca h
 | .aC m,s,bh,a7,c4,ca,h=>by unfold hk at h ⊢;exact ol c4 ca h
def tmpsOf (I:Oper):List Nat:=I.op.operands.toList.filterMap fun | .tmp t=>some t|_=>none
def Nr:av→List Nat
 | .ref r _ _ _=>[r]
 | .aV r _ _ _=>[r]
 | .fD r _ _ _=>[r]
 | _=>[]
def kd (ops:Array Oper) (I:Oper):List Nat :=
 tmpsOf I++(match I.guard with
  | some (j,_)=>((ops[j]?).bind (·.dst)).toList
  | none=>[])
def rb (s:S) (I:Oper):ea→List Nat
 | .call bO=>bO.cK
 | .kf t v dZ=>rb {E:=fun u=>if u=t then v else s.E u,aH:=s.aH} I dZ
 | .pg r dZ=>r::rb s I dZ
 | .uA r _ dZ=>r::rb s I dZ
 | _=>match I.op with
  | .move _=>[]
  | _=>(tmpsOf I).flatMap fun t=>Nr (s.E t)
def S.only (s:S) (ji gg:List Nat):S:={E:=fun t=>if ji.contains t then s.E t else .dead,aH:=fun r=>if gg.contains r then s.aH r else none}
theorem Ao {P:Program} {N:Nat} {ops:Array Oper} {s:S} {aD:Nat} {I:Oper} {dZ:ea×Bool} {a7:fy} {gg:List Nat}
 (h:lk P N ops (s.only (kd ops I) gg) aD I dZ=some a7):lk P N ops s aD I dZ=some a7:=by
 have c4 : ∀x∈I.op.operands,dm (s.only (kd ops I) gg).E x=dm s.E x:=by
  intro x ad
  cases x with
  | tmp t =>
   have:t∈kd ops I:=by
    unfold kd
    rw [List.mem_append];left
    unfold tmpsOf
    rw [List.mem_filterMap]
    exact ⟨.tmp t,by simpa using ad,rfl⟩
   simp [dm,S.only,this]
  | _=>rfl
 have ca : ∀r row,(s.only (kd ops I) gg).aH r=some row→s.aH r=some row:=by
  intro r row ao
  simp only [S.only] at ao
  split at ao
  ·exact ao
  ·simp at ao
 have h0 : ∀r,vW P (s.only (kd ops I) gg) aD I dZ.1=some r→vW P s aD I dZ.1=some r:=fun r ao=>vu dZ.1 s _ r c4 ca ao
 have h1 : ∀r,mH P (s.only (kd ops I) gg) aD I dZ.1=some r→mH P s aD I dZ.1=some r:=by
  intro r ao
  unfold mH at ao ⊢
  split at ao
  ·rename_i cS eZ
   rw [h0 cS eZ]
   simp only
   split at ao
   ·rename_i a3
    rw [if_pos]
    ·exact ao
    ·rw [List.all_eq_true] at a3 ⊢
     intro p ak
     have:=a3 p ak
     simp only [Bool.or_eq_true,decide_eq_true_eq] at this ⊢
     rcases this with e|e
     ·exact .inl e
     ·right
      cases aU:(s.only (kd ops I) gg).aH p.1 with
      | none=>rw [aU] at e;simp at e
      | some row=>rw [ca _ row aU];rfl
   ·simp at ao
  ·simp at ao
 unfold lk at h ⊢
 split at h
 ·simp at h
 ·rename_i tu
  rw [if_neg tu]
  split at h
  ·exact h1 _ h
  ·rename_i j want d5
   split at h
   ·simp at h
   ·rename_i d a9
    have iK:d∈kd ops I:=by
     unfold kd
     rw [List.mem_append];right
     simp [d5,a9]
    have he:(s.only (kd ops I) gg).E d=s.E d:=by simp [S.only,iK]
    rw [he] at h
    split at h
    ·split at h
     ·rename_i aW
      rw [if_pos aW]
      split at h
      ·rename_i r ao
       rw [h1 r ao];exact h
      ·simp at h
     ·rename_i aW
      rw [if_neg aW];exact h
    ·exact h
    ·simp at h
structure Rec where
 I:Oper
 dZ:ea×Bool
 ji:List Nat
 gg:List Nat
 a7:fy
def li (P:Program) (N:Nat) (ops:Array Oper):List Oper→List (ea×Bool)→S→Nat→Option (S×List Rec)
 | [],[],s,_=>some (s,[])
 | I::l,dZ::bX,s,aD =>
  match lk P N ops (s.only (kd ops I) (aD::rb s I dZ.1)) aD I dZ with
  | some a7=>match li P N ops l bX (s.aC I a7) (aD+1) with
   | some (bh,rec)=>some (bh,⟨I,dZ,kd ops I,aD::rb s I dZ.1,a7⟩::rec)
   | none=>none
  | none=>none
 | _,_,_,_=>none
def meets (a b:List Nat):Bool:=a.any fun x=>b.contains x
def kU (x y:Rec):Bool :=
 meets x.I.dst.toList (y.ji++y.I.dst.toList) || meets x.ji y.I.dst.toList ||
 meets (x.a7.ef.map (·.1)) (y.gg++y.a7.ef.map (·.1)) || meets x.gg (y.a7.ef.map (·.1))
end Go.VL
namespace Go.VL
set_option linter.unusedVariables false
set_option linter.unusedSimpArgs false
open Go
def S.hz (s:S):Nat⊕Nat→av⊕Option (List ae)
 | .inl t=> .inl (s.E t)
 | .inr r=> .inr (s.aH r)
theorem S.FC {s bh:S} (h : ∀L,s.hz L=bh.hz L):s=bh:=by
 obtain ⟨E,aH⟩:=s
 obtain ⟨jE,fm⟩:=bh
 have h1:E=jE:=funext fun t=>by have:=h (.inl t);simpa [S.hz] using this
 have R:aH=fm:=funext fun r=>by have:=h (.inr r);simpa [S.hz] using this
 rw [h1,R]
def kR:List (Nat×List ae)→Nat→Option (List ae)
 | [],_=>none
 | (r,row)::u,q=>match kR u q with
  | some x=>some x
  | none=>if r=q then some row else none
theorem EC : ∀(u:List (Nat×List ae)) (s:S) (q:Nat),(s.fS u).aH q=match kR u q with|some x=>some x|none=>s.aH q
 | [],s,q=>rfl
 | (r,row)::u,s,q=>by
  show ((s.setRow r row).fS u).aH q=_
  rw [EC u (s.setRow r row) q]
  simp only [kR]
  cases kR u q with
  | some x=>rfl
  | none =>
   simp only [S.setRow]
   by_cases h:r=q
   ·subst h;simp
   ·rw [if_neg (Ne.symm h),if_neg h]
theorem sl : ∀(u:List (Nat×List ae)) (q:Nat),kR u q≠none→q∈u.map (·.1)
 | [],q,h=>by simp [kR] at h
 | (r,row)::u,q,h=>by
  simp only [kR] at h
  cases aU:kR u q with
  | some x=>simp [sl u q (by rw [aU];simp)]
  | none =>
   rw [aU] at h
   simp only at h
   by_cases e:r=q
   ·simp [e]
   ·rw [if_neg e] at h;simp at h
def je (x:Rec):Nat⊕Nat→Option (av⊕Option (List ae))
 | .inl t=>if x.I.dst=some t then some (.inl x.a7.val) else none
 | .inr r=>(kR x.a7.ef r).map fun row=> .inr (some row)
theorem s7 (s:S) (x:Rec) (L:Nat⊕Nat):(s.aC x.I x.a7).hz L=(je x L).getD (s.hz L):=by
 cases L with
 | inl t =>
  simp only [S.hz,je,S.aC]
  cases a9:x.I.dst with
  | none=>simp [S.put,s6]
  | some d =>
   simp only [S.put,Option.some.injEq]
   by_cases h:t=d
   ·subst h;simp
   ·rw [if_neg h,if_neg (Ne.symm h),s6];rfl
 | inr r =>
  simp only [S.hz,je,S.aC,S.nn]
  rw [EC]
  cases kR x.a7.ef r<;>rfl
def eY:List Rec→(Nat→Bool)→Nat→S→S
 | [],_,_,s=>s
 | x::l,f,n,s=>eY l f (n+1) (if f n then s.aC x.I x.a7 else s)
theorem Aj (L:Nat⊕Nat) : ∀(l:List Rec) (f hf:Nat→Bool) (n:Nat) (s bh:S),s.hz L=bh.hz L →
 (∀(i:Nat) x,l[i]? = some x→je x L≠none→f (n+i)=hf (n+i))→(eY l f n s).hz L=(eY l hf n bh).hz L
 | [],_,_,_,_,_,h,_=>h
 | x::l,f,hf,n,s,bh,h,bB=>by
  simp only [eY]
  refine Aj L l f hf (n+1) _ _ ?_ fun i y aP he=>by
   have:=bB (i+1) y (by simpa using aP) he
   rw [show n+1+i=n+(i+1) by omega];exact this
  cases he:je x L with
  | none =>
   have e : ∀(b:Bool) (s:S),(if b then s.aC x.I x.a7 else s).hz L=s.hz L:=by
    intro b s
    cases b
    ·rfl
    ·simp [s7,he]
   rw [e,e,h]
  | some c =>
   have:=bB 0 x rfl (by rw [he];simp)
   simp only [Nat.add_zero] at this
   rw [this]
   cases hf n
   ·exact h
   ·simp [s7,he]
theorem Ei (L:Nat⊕Nat) : ∀(l:List Rec) (f:Nat→Bool) (n:Nat) (s:S),(∀(i:Nat) x,l[i]? = some x→f (n+i)=true→je x L=none)→(eY l f n s).hz L=s.hz L
 | [],_,_,_,_=>rfl
 | x::l,f,n,s,h=>by
  simp only [eY]
  rw [Ei L l f (n+1) _ fun i y aP bB=>h (i+1) y (by simpa using aP) (by rw [show n+(i+1)=n+1+i by omega];exact bB)]
  cases bB:f n
  ·rfl
  ·have:=h 0 x rfl (by simpa using bB)
   simp [s7,this]
theorem Ej (L:Nat⊕Nat) : ∀(l:List Rec) (f:Nat→Bool) (n j:Nat) (s:S) (x:Rec) (c:av⊕Option (List ae)),l[j]? = some x→f (n+j)=true→je x L=some c →
 (∀(i:Nat) y,l[i]? = some y→j<i→f (n+i)=true→je y L=none)→(eY l f n s).hz L=c
 | [],_,_,_,_,_,_,h,_,_,_=>by simp at h
 | y::l,f,n,0,s,x,c,h,bB,he,bl=>by
  simp at h;subst h
  simp only [eY]
  rw [Ei L l f (n+1) _ fun i z cq hfz=>bl (i+1) z (by simpa using cq) (by omega) (by rw [show n+(i+1)=n+1+i by omega];exact hfz)]
  simp only [Nat.add_zero] at bB
  simp [bB,s7,he]
 | y::l,f,n,j+1,s,x,c,h,bB,he,bl=>by
  simp only [eY]
  exact Ej L l f (n+1) j _ x c (by simpa using h) (by rw [show n+1+j=n+(j+1) by omega];exact bB) he fun i z cq lq hfz =>
   bl (i+1) z (by simpa using cq) (by omega) (by rw [show n+(i+1)=n+1+i by omega];exact hfz)
theorem sm : ∀(l:List Rec) (f hf:Nat→Bool) (n:Nat) (s:S),(∀i,i<l.length→f (n+i)=hf (n+i))→eY l f n s=eY l hf n s
 | [],_,_,_,_,_=>rfl
 | x::l,f,hf,n,s,h=>by
  simp only [eY]
  have h0:=h 0 (by simp)
  simp only [Nat.add_zero] at h0
  rw [h0]
  exact sm l f hf (n+1) _ fun i a6=>by rw [show n+1+i=n+(i+1) by omega];exact h (i+1) (by simpa using a6)
theorem D1 {P:Program} {N:Nat} {ops:Array Oper} : ∀(l:List Oper) (bX:List (ea×Bool)) (s bh:S) (aD:Nat) (gg:List Rec),li P N ops l bX s aD=some (bh,gg)→s.hh aD →
 gg.length=l.length∧bh=eY gg (fun _=>true) 0 s∧ ∀(i:Nat) x,gg[i]? = some x→l[i]? = some x.I∧x.ji=kd ops x.I ∧
  aD+i∈x.gg∧lk P N ops ((eY (gg.take i) (fun _=>true) 0 s).only x.ji x.gg) (aD+i) x.I x.dZ=some x.a7∧(eY (gg.take i) (fun _=>true) 0 s).hh (aD+i)
 | [],[],s,bh,aD,gg,h,bB=>by
  simp [li] at h;obtain ⟨rfl,rfl⟩:=h
  exact ⟨rfl,rfl,fun i x ad=>by simp at ad⟩
 | I::l,dZ::bX,s,bh,aD,gg,h,bB=>by
  simp only [li] at h
  split at h
  ·rename_i a7 aq
   split at h
   ·rename_i s2 BR R
    simp only [Option.some.injEq,Prod.mk.injEq] at h
    obtain ⟨rfl,rfl⟩:=h
    have tN : ∀(l:List Rec) (n:Nat) (s:S),eY l (fun _=>true) (n+1) s=eY l (fun _=>true) n s:=by
     intro l
     induction l with
     | nil=>intro n s;rfl
     | cons x l ih=>intro n s;simp only [eY];exact ih (n+1) _
    obtain ⟨e1,az,bp⟩:=D1 l bX (s.aC I a7) s2 (aD+1) BR R (vt (Ao aq) bB)
    refine ⟨by simp [e1],?_,fun i x ad=> ?_⟩
    ·simp only [eY,if_true]
     rw [tN];exact az
    ·cases i with
     | zero =>
      simp at ad;subst ad
      exact ⟨rfl,rfl,by simp,aq,bB⟩
     | succ i =>
      simp at ad
      obtain ⟨f1,f2,f0,f3,f4⟩:=bp i x ad
      have e:eY ((⟨I,dZ,kd ops I,aD::rb s I dZ.1,a7⟩::BR).take (i+1)) (fun _=>true) 0 s=eY (BR.take i) (fun _=>true) 0 (s.aC I a7):=by
       simp only [List.take_succ_cons,eY,if_true]
       rw [tN]
      rw [e,show aD+(i+1)=aD+1+i by omega]
      exact ⟨by simpa using f1,f2,f0,f3,f4⟩
   ·simp at h
  ·simp at h
 | [],_::_,_,_,_,_,h,_=>by simp [li] at h
 | _::_,[],_,_,_,_,h,_=>by simp [li] at h
inductive lr (ops:Array Oper):Nat→Nat→Prop
 | one {i j:Nat} {I:Oper} {e:Edge} (ag:ops[j]? = some I) (he:e∈I.after) (aW:Region.binds .any e=true) (h:e.on=i):lr ops i j
 | step {i j k:Nat} {I:Oper} {e:Edge} (ag:ops[j]? = some I) (he:e∈I.after) (aW:Region.binds .any e=true) (h:e.on=k) (bl:lr ops i k):lr ops i j
def te:List Oper→List Nat→List Nat
 | [],acc=>acc
 | I::l,acc=>te l (acc++[I.after.toList.foldl (fun m e=>if Region.binds .any e then m ||| (1 <<< e.on) ||| (acc.getD e.on 0) else m) 0])
theorem ED {ops:Array Oper} {j:Nat} {I:Oper} (ag:ops[j]? = some I) {acc:List Nat} (Gd : ∀k i,(acc.getD k 0).testBit i=true→lr ops i k) : ∀(es:List Edge) (m:Nat),(∀e∈es,e∈I.after) →
 (∀i,m.testBit i=true→lr ops i j)→ ∀i,(es.foldl (fun m e=>if Region.binds .any e then m ||| (1 <<< e.on) ||| (acc.getD e.on 0) else m) m).testBit i=true→lr ops i j
 | [],m,_,hm,i,h=>hm i h
 | e::es,m,fk,hm,i,h=>by
  simp only [List.foldl_cons] at h
  refine ED ag Gd es _ (fun d4 j8=>fk d4 (by simp [j8])) ?_ i h
  intro i a6
  split at a6
  ·rename_i aW
   rw [Nat.testBit_or,Nat.testBit_or,Bool.or_eq_true,Bool.or_eq_true] at a6
   rcases a6 with (a6|a6)|a6
   ·exact hm i a6
   ·rw [Nat.testBit_shiftLeft] at a6
    simp only [Bool.and_eq_true,decide_eq_true_eq] at a6
    have:i-e.on=0:=by
     have:=a6.2
     rcases Nat.eq_zero_or_pos (i-e.on) with h0|h0
     ·exact h0
     ·rw [Nat.testBit_one_eq_true_iff_self_eq_zero] at this;exact this
    exact .one ag (fk e (by simp)) aW (by omega)
   ·exact .step ag (fk e (by simp)) aW rfl (Gd _ _ a6)
  ·exact hm i a6
theorem EE {ops:Array Oper} : ∀(l:List Oper) (acc:List Nat),(∀(i:Nat) I,l[i]? = some I→ops[acc.length+i]? = some I)→(∀k i,(acc.getD k 0).testBit i=true→lr ops i k) →
 ∀k i,((te l acc).getD k 0).testBit i=true→lr ops i k
 | [],acc,_,h,k,i,bl=>h k i bl
 | I::l,acc,aK,h,k,i,bl=>by
  simp only [te] at bl
  refine EE l _ (fun i bn cz=>by
   have:=aK (i+1) bn (by simpa using cz)
   simp only [List.length_append,List.length_cons,List.length_nil]
   rw [show acc.length+(0+1)+i=acc.length+(i+1) by omega];exact this) ?_ k i bl
  intro k i bl
  rw [List.getD_eq_getElem?_getD,List.getElem?_append] at bl
  split at bl
  ·exact h k i (by rw [List.getD_eq_getElem?_getD];exact bl)
  ·rename_i cG
   by_cases e:k=acc.length
   ·subst e
    simp only [Nat.sub_self,List.getElem?_cons_zero,Option.getD_some] at bl
    exact ED (aK 0 I rfl) h _ 0 (fun e he=>by simpa using he) (fun i a6=>by simp at a6) i bl
   ·rw [List.getElem?_eq_none (by simp;omega)] at bl
    simp at bl
def sU (m:Nat) (y:Rec):List Rec→Nat→Bool
 | [],_=>true
 | x::l,i=>(!kU x y || m.testBit i) && sU m y l (i+1)
def wc (eM:List Rec):List Rec→List Nat→Nat→Bool
 | [],_,_=>true
 | y::l,d6,j=>sU (d6.headD 0) y (eM.take j) 0 && y.I.after.toList.all (fun e=> !Region.binds .any e || decide (e.on<j)) && wc eM l d6.tail (j+1)
theorem Ek {m:Nat} {y:Rec} : ∀(l:List Rec) (n:Nat),sU m y l n=true→ ∀(i:Nat) x,l[i]? = some x→kU x y=true→m.testBit (n+i)=true
 | [],_,_,i,x,ad,_=>by simp at ad
 | z::l,n,h,i,x,ad,a3=>by
  simp only [sU,Bool.and_eq_true,Bool.or_eq_true,Bool.not_eq_true'] at h
  cases i with
  | zero =>
   simp at ad;subst ad
   rcases h.1 with e|e
   ·rw [e] at a3;simp at a3
   ·simpa using e
  | succ i =>
   have:=Ek l (n+1) h.2 i x (by simpa using ad) a3
   rw [show n+(i+1)=n+1+i by omega];exact this
theorem EV {eM:List Rec} : ∀(l:List Rec) (d6:List Nat) (j:Nat),wc eM l d6 j=true→ ∀(i:Nat) y,l[i]? = some y →
 sU (d6.getD i 0) y (eM.take (j+i)) 0=true∧ ∀e∈y.I.after,Region.binds .any e=true→e.on<j+i
 | [],_,_,_,i,y,aP=>by simp at aP
 | z::l,d6,j,h,i,y,aP=>by
  simp only [wc,Bool.and_eq_true] at h
  cases i with
  | zero =>
   simp at aP;subst aP
   refine ⟨?_,fun e he aW=> ?_⟩
   ·have:d6.getD 0 0=d6.headD 0:=by cases d6<;>rfl
    rw [this];exact h.1.1
   ·have:=List.all_eq_true.1 h.1.2 e (by simpa using he)
    simpa [aW] using this
  | succ i =>
   obtain ⟨e1,az⟩:=EV l d6.tail (j+1) h.2 i y (by simpa using aP)
   refine ⟨?_,fun e he aW=> ?_⟩
   ·have:d6.getD (i+1) 0=d6.tail.getD i 0:=by cases d6<;>rfl
    rw [this,show j+(i+1)=j+1+i by omega];exact e1
   ·have:=az e he aW;omega
end Go.VL
namespace Go.VL
set_option linter.unusedVariables false
set_option linter.unusedSimpArgs false
open Go
theorem qv {a b:List Nat} {x:Nat} (bL:x∈a) (aW:x∈b):meets a b=true:=by
 unfold meets
 rw [List.any_eq_true]
 exact ⟨x,bL,by simpa using aW⟩
theorem K7 {x y:Rec} (h:kU x y=false) {L:Nat⊕Nat} (ad:je x L≠none):je y L=none:=by
 simp only [kU,Bool.or_eq_false_iff] at h
 cases L with
 | inl t =>
  simp only [je] at ad ⊢
  by_cases h1:x.I.dst=some t
  ·by_cases R:y.I.dst=some t
   ·have:=qv (a:=x.I.dst.toList) (b:=y.ji++y.I.dst.toList) (x:=t) (by simp [h1]) (by simp [R])
    rw [h.1.1.1] at this;simp at this
   ·simp [R]
  ·simp [h1] at ad
 | inr r =>
  simp only [je] at ad ⊢
  cases R:kR y.a7.ef r with
  | none=>rfl
  | some row =>
   have fa:r∈x.a7.ef.map (·.1):=sl _ _ (by intro e;simp [e] at ad)
   have eG:r∈y.a7.ef.map (·.1):=sl _ _ (by rw [R];simp)
   have:=qv fa (b:=y.gg++y.a7.ef.map (·.1)) (by simp only [List.mem_append];exact .inr eG)
   rw [h.1.2] at this;simp at this
def Rec.wB (x:Rec):Nat⊕Nat→Prop
 | .inl t=>t∈x.ji
 | .inr r=>r∈x.gg
theorem K8 {x y:Rec} (h:kU x y=false) {L:Nat⊕Nat} (aP:y.wB L):je x L=none:=by
 simp only [kU,Bool.or_eq_false_iff] at h
 cases L with
 | inl t =>
  simp only [je]
  by_cases h1:x.I.dst=some t
  ·have:=qv (a:=x.I.dst.toList) (b:=y.ji++y.I.dst.toList) (x:=t) (by simp [h1]) (by simp only [List.mem_append];exact .inl aP)
   rw [h.1.1.1] at this;simp at this
  ·simp [h1]
 | inr r =>
  simp only [je]
  cases R:kR x.a7.ef r with
  | none=>rfl
  | some row =>
   have fa:r∈x.a7.ef.map (·.1):=sl _ _ (by rw [R];simp)
   have:=qv fa (b:=y.gg++y.a7.ef.map (·.1)) (by simp only [List.mem_append];exact .inl aP)
   rw [h.1.2] at this;simp at this
theorem K9 {x y:Rec} (h:kU x y=false) {L:Nat⊕Nat} (ad:x.wB L):je y L=none:=by
 simp only [kU,Bool.or_eq_false_iff] at h
 cases L with
 | inl t =>
  simp only [je]
  by_cases h1:y.I.dst=some t
  ·have:=qv (a:=x.ji) (b:=y.I.dst.toList) (x:=t) ad (by simp [h1])
   rw [h.1.1.2] at this;simp at this
  ·simp [h1]
 | inr r =>
  simp only [je]
  cases R:kR y.a7.ef r with
  | none=>rfl
  | some row =>
   have fa:r∈y.a7.ef.map (·.1):=sl _ _ (by rw [R];simp)
   have:=qv (a:=x.gg) ad fa
   rw [h.2] at this;simp at this
theorem Lt {s bh:S} {x:Rec} (h : ∀L,x.wB L→s.hz L=bh.hz L):s.only x.ji x.gg=bh.only x.ji x.gg:=by
 apply S.FC
 intro L
 cases L with
 | inl t =>
  simp only [S.hz,S.only]
  by_cases bK:t∈x.ji
  ·have:=h (.inl t) bK
   simp only [S.hz,Sum.inl.injEq] at this
   simp [bK,this]
  ·simp [bK]
 | inr r =>
  simp only [S.hz,S.only]
  by_cases ao:r∈x.gg
  ·have:=h (.inr r) ao
   simp only [S.hz,Sum.inr.injEq] at this
   simp [ao,this]
  ·simp [ao]
theorem El : ∀(l:List Rec) (i n:Nat) (s:S),eY (l.take i) (fun _=>true) n s=eY l (fun k=>decide (k<n+i)) n s
 | [],i,n,s=>by simp [eY]
 | x::l,0,n,s=>by
  simp only [List.take_zero,eY,Nat.add_zero]
  rw [if_neg (by simp)]
  have:=sm l (fun k=>decide (k<n)) (fun _=>false) (n+1) s (fun i _=>by simp;omega)
  rw [this]
  have cq : ∀(l:List Rec) (n:Nat),eY l (fun _=>false) n s=s:=by
   intro l
   induction l with
   | nil=>intro n;rfl
   | cons x l ih=>intro n;simp only [eY,Bool.false_eq_true,if_false];exact ih _
  rw [cq]
 | x::l,i+1,n,s=>by
  simp only [List.take_succ_cons,eY,if_true]
  rw [if_pos (by simp),El l i (n+1)]
  exact sm l _ _ (n+1) _ fun j _=>by congr 1;apply propext;omega
def ou (l:List Bool):Nat:=l.countP (fun b=> !b)
section
variable {P:Program} {ops:Array Oper} {Q:Exit→Act→World→Prop} {g:G} {gh:S} {nN:Nat} {eM:List Rec}
theorem vA {d3:Array Bool} (dC:d3.size=ops.size) {i:Nat}:i∈Region.ready .any ops d3↔i<ops.size∧d3.getD i false=false∧ ∀I,ops[i]? = some I→ ∀e∈I.after,Region.binds .any e=true→d3.getD e.on false=true:=by
 unfold Region.ready
 rw [List.mem_filter,List.mem_range]
 constructor
 ·rintro ⟨h1,R⟩
  simp only [Bool.and_eq_true,Bool.not_eq_true'] at R
  have aK:i<d3.size:=by omega
  refine ⟨h1,?_,fun I ag e he aW=> ?_⟩
  ·have:=R.1
   rw [Array.getD_eq_getD_getElem?,Array.getElem?_eq_getElem aK] at this ⊢
   simpa using this
  ·have ai:=R.2
   rw [ag] at ai
   simp only [Option.map_some,Option.getD_some] at ai
   rw [Array.all_eq_true_iff_forall_mem] at ai
   have:=ai e he
   simpa [aW] using this
 ·rintro ⟨h1,R,ai⟩
  refine ⟨h1,?_⟩
  have aK:i<d3.size:=by omega
  have ag:ops[i]? = some ops[i]:=Array.getElem?_eq_getElem h1
  simp only [Bool.and_eq_true,Bool.not_eq_true']
  refine ⟨?_,?_⟩
  ·rw [Array.getD_eq_getD_getElem?,Array.getElem?_eq_getElem aK] at R ⊢
   simpa using R
  ·rw [ag]
   simp only [Option.map_some,Option.getD_some]
   rw [Array.all_eq_true_iff_forall_mem]
   intro e he
   cases aW:Region.binds .any e with
   | false=>rfl
   | true=>simp [ai _ ag e he aW]
theorem L2 (hlen:eM.length=ops.size) (tv : ∀(i:Nat) x,eM[i]? = some x→ops[i]? = some x.I∧x.ji=kd ops x.I∧nN+i∈x.gg ∧
 lk P g.N ops ((eY (eM.take i) (fun _=>true) 0 gh).only x.ji x.gg) (nN+i) x.I x.dZ=some x.a7∧(eY (eM.take i) (fun _=>true) 0 gh).hh (nN+i))
 (bT : ∀x∈eM,∀p∈x.a7.dR,p)
 (wC : ∀(i j:Nat) x y,i<j→eM[i]? = some x→eM[j]? = some y→kU x y=true→lr ops i j)
 (td : ∀(i:Nat) I,ops[i]? = some I→ ∀e∈I.after,Region.binds .any e=true→e.on<i)
 (nP : ∀bc cE bo,b0 g (eY eM (fun _=>true) 0 gh) bc cE bo→Q .normal cE bo) :
 ∀(kV:Nat) (d3:Array Bool) (ar:dB) (a:Act) (w:World),d3.size=ops.size→ou d3.toList≤kV →
  (∀i j,d3.getD j false=true→lr ops i j→d3.getD i false=true) →
  b0 g (eY eM (fun i=>d3.getD i false) 0 gh) ar a w→wpAny P .any ops Q kV d3 a w:=by
 have FU : ∀(d3:Array Bool) (ar:dB) (a:Act) (w:World),d3.size=ops.size→Region.ready .any ops d3=[] →
  b0 g (eY eM (fun i=>d3.getD i false) 0 gh) ar a w→Q .normal a w:=by
  intro d3 ar a w dC ao h
  have gp : ∀i,i<ops.size→d3.getD i false=true:=by
   intro i
   induction i using Nat.strongRecOn with
   | _ i ih =>
    intro a6
    cases aK:d3.getD i false with
    | true=>rfl
    | false =>
     exfalso
     have:i∈Region.ready .any ops d3:=(vA dC).2 ⟨a6,aK,fun I ag e he aW=>by
      have cG:=td i I ag e he aW
      exact ih e.on cG (by omega)⟩
     rw [ao] at this;simp at this
  have e:=sm eM (fun i=>d3.getD i false) (fun _=>true) 0 gh (fun i a6=>by simpa using gp i (by omega))
  rw [e] at h
  exact nP ar a w h
 have A4 : ∀(d3:Array Bool) (ar:dB) (a:Act) (w:World),d3.size=ops.size→(∀i j,d3.getD j false=true→lr ops i j→d3.getD i false=true) →
  b0 g (eY eM (fun i=>d3.getD i false) 0 gh) ar a w→ ∀i∈Region.ready .any ops d3,∀K:Act→World→Prop,
  (∀bc cE bo,b0 g (eY eM (fun k=>(d3.setIfInBounds i true).getD k false) 0 gh) bc cE bo→K cE bo)→wpOp P ops Q i K a w:=by
  intro d3 ar a w dC oN h i a6 K ft
  obtain ⟨BS,GD,GF⟩:=(vA dC).1 a6
  have o8:eM[i]? = some (eM[i]'(by omega)):=List.getElem?_eq_getElem _
  generalize eM[i]'(by omega)=x at o8
  obtain ⟨r1,bj,r0,bY,bg⟩:=tv i x o8
  have Bi : ∀j,lr ops j i→d3.getD j false=true:=by
   intro j aL
   cases aL with
   | one ag he aW k0 =>
    rw [r1] at ag;simp at ag;subst ag
    rw [← k0];exact GF _ r1 _ he aW
   | step ag he aW k0 bl =>
    rw [r1] at ag;simp at ag;subst ag
    have:=GF _ r1 _ he aW
    rw [k0] at this
    exact oN _ _ this bl
  have cG : ∀j y,eM[j]? = some y→j<i→d3.getD j false=false→kU y x=false:=by
   intro j y aP lq bB
   cases a3:kU y x with
   | false=>rfl
   | true=>have:=Bi j (wC j i y x lq aP o8 a3);rw [bB] at this;simp at this
  have wV : ∀j y,eM[j]? = some y→i<j→d3.getD j false=true→kU x y=false:=by
   intro j y aP rc bB
   cases a3:kU x y with
   | false=>rfl
   | true=>have:=oN i j bB (wC i j x y rc o8 aP a3);rw [GD] at this;simp at this
  have Ge : ∀L,x.wB L→(eY (eM.take i) (fun _=>true) 0 gh).hz L=(eY eM (fun i=>d3.getD i false) 0 gh).hz L:=by
   intro L nQ
   rw [El]
   refine Aj L eM _ _ 0 gh gh rfl fun j y aP he=> ?_
   simp only [Nat.zero_add]
   rcases Nat.lt_trichotomy j i with lq|lq|lq
   ·cases bB:d3.getD j false with
    | true=>simpa using lq
    | false=>exact absurd (K8 (cG j y aP lq bB) nQ) he
   ·subst lq;simpa using GD.symm
   ·cases bB:d3.getD j false with
    | false=>simp;omega
    | true=>exact absurd (K9 (wV j y aP lq bB) nQ) he
  have aq:lk P g.N ops (eY eM (fun i=>d3.getD i false) 0 gh) (nN+i) x.I x.dZ=some x.a7:=by
   rw [Lt Ge,bj] at bY
   exact Ao bY
  have cV:(eY eM (fun i=>d3.getD i false) 0 gh).aH (nN+i)=none:=by
   have e1:=Ge (.inr (nN+i)) r0
   simp only [S.hz,Sum.inr.injEq] at e1
   rw [← e1];exact bg _ (Nat.le_refl _)
  refine D0 h cV r1 aq (bT x (List.mem_of_getElem? o8)) fun bc cE bo b9=>ft bc cE bo ?_
  have mj : ∀k,(d3.setIfInBounds i true).getD k false=if k=i then true else d3.getD k false:=by
   intro k
   simp only [Array.getD_eq_getD_getElem?,Array.getElem?_setIfInBounds]
   by_cases e:i=k
   ·subst e;simp [dC,BS]
   ·rw [if_neg e,if_neg (Ne.symm e)]
  have wH:(eY eM (fun i=>d3.getD i false) 0 gh).aC x.I x.a7=eY eM (fun k=>(d3.setIfInBounds i true).getD k false) 0 gh:=by
   apply S.FC
   intro L
   rw [s7]
   cases he:je x L with
   | none =>
    refine Aj L eM _ _ 0 gh gh rfl fun j y aP tP=> ?_
    simp only [Nat.zero_add,mj]
    by_cases e:j=i
    ·subst e;rw [o8] at aP;simp at aP;subst aP;exact absurd he tP
    ·rw [if_neg e]
   | some c =>
    symm
    refine Ej L eM _ 0 i gh x c o8 (by simp [mj]) he fun j y aP rc bB=> ?_
    simp only [Nat.zero_add,mj] at bB
    rw [if_neg (by omega)] at bB
    exact K7 (wV j y aP rc bB) (by rw [he];simp)
  rw [wH] at b9
  exact b9
 intro kV
 induction kV with
 | zero =>
  intro d3 ar a w dC tp oN h
  have ao:Region.ready .any ops d3=[]:=by
   cases ao:Region.ready .any ops d3 with
   | nil=>rfl
   | cons i l =>
    exfalso
    have a6:i∈Region.ready .any ops d3:=by rw [ao];simp
    obtain ⟨h1,R,-⟩:=(vA dC).1 a6
    have h0:ou d3.toList=0:=by omega
    unfold ou at h0
    rw [List.countP_eq_zero] at h0
    have o1:i<d3.size:=by omega
    have:=h0 (d3[i]) (by simp)
    rw [Array.getD_eq_getD_getElem?,Array.getElem?_eq_getElem o1] at R
    simp at R this
    rw [R] at this;simp at this
  exact ⟨ao,FU d3 ar a w dC ao h⟩
 | succ kV ih =>
  intro d3 ar a w dC tp oN h
  refine ⟨fun ao=>FU d3 ar a w dC ao h,fun i a6=> ?_⟩
  refine A4 d3 ar a w dC oN h i a6 _ fun bc cE bo b9=> ?_
  obtain ⟨h1,R,ai⟩:=(vA dC).1 a6
  have o1:i<d3.size:=by omega
  have mj : ∀k,(d3.setIfInBounds i true).getD k false=if k=i then true else d3.getD k false:=by
   intro k
   simp only [Array.getD_eq_getD_getElem?,Array.getElem?_setIfInBounds]
   by_cases e:i=k
   ·subst e;simp [o1]
   ·rw [if_neg e,if_neg (Ne.symm e)]
  refine ih _ bc cE bo (by simpa using dC) ?_ ?_ b9
  ·have bB:d3[i]=false:=by
    rw [Array.getD_eq_getD_getElem?,Array.getElem?_eq_getElem o1] at R;simpa using R
   have a3:ou (d3.setIfInBounds i true).toList+1≤ou d3.toList:=by
    unfold ou
    rw [Array.toList_setIfInBounds]
    have key : ∀(l:List Bool) (i:Nat),l[i]? = some false→(l.set i true).countP (fun b=> !b)+1=l.countP (fun b=> !b):=by
     intro l
     induction l with
     | nil=>intro i a6;simp at a6
     | cons b l ih =>
      intro i a6
      cases i with
      | zero=>simp at a6;subst a6;simp
      | succ i =>
       simp at a6
       simp only [List.set_cons_succ,List.countP_cons]
       have:=ih i a6
       omega
    rw [key d3.toList i (by rw [Array.getElem?_toList,Array.getElem?_eq_getElem o1,bB])]
    exact Nat.le_refl _
   omega
  ·intro k j aL GG
   rw [mj] at aL ⊢
   by_cases e:k=i
   ·rw [if_pos e]
   ·rw [if_neg e]
    by_cases az:j=i
    ·subst az
     cases GG with
     | one ag he aW k0=>rw [← k0];exact ai _ ag _ he aW
     | step ag he aW k0 bl =>
      have:=ai _ ag _ he aW
      rw [k0] at this
      exact oN _ _ this bl
    ·rw [if_neg az] at aL;exact oN k j aL GG
end
def sL (P:Program) (N:Nat) (ops:Array Oper) (draw:Bool) (bX:List (ea×Bool)) (s:S) (aD:Nat):Option (S×List Prop) :=
 if draw then
  match li P N ops ops.toList bX s aD with
  | some (bh,eM)=>if wc eM eM (te ops.toList []) 0 then some (bh,eM.flatMap (·.a7.dR)) else none
  | none=>none
 else lh P N ops ops.toList bX s aD
theorem JV {P:Program} (kW:P.follows .mixedOrders=true) {g:G} {ops:Array Oper} {draw:Bool} {bX:List (ea×Bool)} {s bh:S} {aD:Nat} {ap:List Prop}
 (h:sL P g.N ops draw bX s aD=some (bh,ap)) (aX : ∀p∈ap,p) (bB:s.hh aD) {ar:dB} {a:Act} {w:World} (ao:b0 g s ar a w) (id:Nat) {Q:Exit→Act→World→Prop}
 (nP : ∀bc cE bo,b0 g bh bc cE bo→Q .normal cE bo):(Code.region id ops draw).wp P Q a w:=by
 unfold sL at h
 cases draw with
 | false =>
  simp only [Bool.false_eq_true,if_false] at h
  refine wp_region ?_
  have:=DS (Q:=Q) (i:=0) ops.toList bX s bh aD ap (fun j I ag=>by simpa using ag) h aX bB nP ar a w ao
  have e:(List.range ops.toList.length).map (0 + ·)=List.range ops.size:=by simp
  rw [e] at this
  exact this
 | true =>
  simp only [if_true] at h
  split at h
  ·rename_i s2 eM tv
   split at h
   ·rename_i wC
    simp only [Option.some.injEq,Prod.mk.injEq] at h
    obtain ⟨rfl,rfl⟩:=h
    obtain ⟨e1,az,bp⟩:=D1 ops.toList bX s s2 aD eM tv bB
    have Bi:=EE (ops:=ops) ops.toList [] (fun i I ag=>by simpa using ag) (fun k i bl=>by simp at bl)
    have hH:=EV eM (te ops.toList []) 0 wC
    refine wp_region_any kW ?_
    refine L2 (gh:=s) (nN:=aD) (eM:=eM) (by simpa using e1) (fun i x ad=>by
     obtain ⟨f1,f2,f0,f3,f4⟩:=bp i x ad
     exact ⟨by simpa using f1,f2,f0,f3,f4⟩) (fun x ad p ak=>aX p (by rw [List.mem_flatMap];exact ⟨x,ad,ak⟩)) (fun i j x y rc ad aP a3=> ?_) (fun i I ag e he aW=> ?_) (fun bc cE bo b9=>nP bc cE bo (by rw [az];exact b9))
     ops.size _ ar a _ (by simp) ?_ ?_ ?_
    ·obtain ⟨f1,-⟩:=hH j y aP
     have cj:(eM.take (0+j))[i]? = some x:=by
      rw [List.getElem?_take,if_pos (by omega)];exact ad
     have:=Ek _ 0 f1 i x cj a3
     rw [Nat.zero_add] at this
     exact Bi j i this
    ·have a6:i<eM.length:=by
      rw [e1]
      have:=(Array.getElem?_eq_some_iff.1 ag).1
      simpa using this
     have ad:=List.getElem?_eq_getElem a6
     obtain ⟨f1,-⟩:=bp i _ ad
     have q9:ops[i]? = some (eM[i]).I:=by simpa using f1
     rw [ag] at q9;simp at q9
     obtain ⟨-,f2⟩:=hH i _ ad
     have:=f2 e (by rw [← q9];exact he) aW
     omega
    ·unfold ou
     have:(Array.replicate ops.size false).toList=List.replicate ops.size false:=by simp
     rw [this,List.countP_replicate];simp
    ·intro i j aL
     simp [Array.getD_eq_getD_getElem?,Array.getElem?_replicate] at aL
     split at aL<;>simp at aL
    ·have e:eY eM (fun i=>(Array.replicate ops.size false).getD i false) 0 s=s:=by
      rw [sm eM _ (fun _=>false) 0 s (fun i _=>by
       simp [Array.getD_eq_getD_getElem?,Array.getElem?_replicate]
       split<;>simp)]
      have cq : ∀(l:List Rec) (n:Nat),eY l (fun _=>false) n s=s:=by
       intro l
       induction l with
       | nil=>intro n;rfl
       | cons x l ih=>intro n;simp only [eY,Bool.false_eq_true,if_false];exact ih _
      exact cq _ _
     rw [e]
     exact ao.drew
   ·simp at h
  ·simp at h
end Go.VL
namespace Go.VL
set_option linter.unusedVariables false
set_option linter.unusedSimpArgs false
open Go
def re:List (Nat×av)→Nat→av
 | [],_=> .dead
 | (u,v)::l,t=>if t=u then v else re l t
def c6 (env:List (Nat×av)) (rows:List (List ae)):S:={E:=re env,aH:=fun r=>rows[r]?}
theorem oE (env:List (Nat×av)) (rows:List (List ae)):(c6 env rows).hh rows.length:=by
 intro r ao
 simp [c6,ao]
def sV (row:List ae):Prop:= ∀I∈row,hS I.es
def jf (l:List Nat):el:=fun j i=>match l[j]? with
 | some r=>some (r,i)
 | none=>none
def rf (aA:el) (x bN:av):Prop :=
 (bN=x∧x.gy=true)∨(∃r k bk len j i,x = .aV r k bk len∧aA j i=some (r,k)∧bN = .aV j i bk len)∨bN = .dead ∨
   ∃r c sz h j cr,x = .fD r c sz h∧(∀k,aA j (k+cr)=some (r,k+c))∧bN = .fD j cr sz h
def rh (aA:el) (row cl:List ae):Prop :=
 cl.length=row.length∧ ∀(k:Nat) I bn,row[k]? = some I→cl[k]? = some bn→bn.sz=I.sz∧bn.bC=I.bC∧bn.es.length=I.es.length∧(∀e∈bn.es,e.length=I.sz) ∧
  ∀(j:Nat) x bN,I.es.flatten[j]? = some x→bn.es.flatten[j]? = some bN→rf aA x bN
def ll (aH:Nat→Option (List ae)) (aY:Nat→Option Nat) (aA:el) (bq:dV→Bool):fA→List ae→Option (List ae×List Prop)
 | .pure,row=>some (row,[sV row])
 | .dP cl,row=>some (cl,[row=cl,sV cl])
 | .eg cl,row=>some (cl,[cl=row.map (jR aY)])
 | .rx cl,row=>some (cl,[rh aA row cl])
 | .drop,row=>some (row.map lG,[])
 | .box l,[I]=>match I.es with
  | [c]=>match ie (ic aH aY aA bq) l c with
   | some (cr,ap)=>some ([{I with es:=[cr]}],ap)
   | none=>none
  | _=>none
 | _,_=>none
def mI (aH:Nat→Option (List ae)) (aY:Nat→Option Nat) (aA:el):List Nat→List fA→Option (List (List ae)×List Prop)
 | [],[]=>some ([],[])
 | r::l,c::bR=>match aH r with
  | some row=>match ll aH aY aA fQ c row,mI aH aY aA l bR with
   | some (cl,bz),some (T,aO)=>some (cl::T,bz++aO)
   | _,_=>none
  | none=>none
 | _,_=>none
def tf (aH:Nat→Option (List ae)) (aY:Nat→Option Nat) (aA:el) (E:Nat→av):List (Nat×h5)→Option (List (Nat×av)×List Prop)
 | []=>some ([],[])
 | (t,c)::l=>match jK aH aY aA fQ c (E t),tf aH aY aA E l with
  | some (v,bz),some (env,aO)=>some ((t,v)::env,bz++aO)
  | _,_=>none
def tg (aA:List Nat) (m:Nat):Bool:=(List.range m).all fun j=>aA[j]? == some j
def we (m:Nat) (s:S) (aA:List Nat) (bR:List fA) (jY:List (Nat×h5)):Option (S×Nat×List Prop) :=
 if decide aA.Nodup && tg aA m then
  match mI s.aH (cZ aA) (jf aA) aA bR,tf s.aH (cZ aA) (jf aA) s.E jY with
  | some (T,bz),some (env,aO)=>some (c6 env T,T.length,bz++aO)
  | _,_=>none
 else none
section
variable {P:Program} {g:G} {s:S} {ar:dB} {a:Act} {w:World}
theorem AA (cR:fj g s ar w) {aA:el} {aY:Nat→Option Nat} {bq:dV→Bool} (H:i2 s aA aY bq) {c:fA} {r:Nat} {gT:Nat→Nat} {row cl:List ae} {ap:List Prop} (cF : ∀k I,b5 (some row) k=some I→s.ap r (gT k)=some I)
 (h:ll s.aH aY aA bq c row=some (cl,ap)) (aX : ∀p∈ap,p) :
 cl.length=row.length∧ ∀(k:Nat) bn,b5 (some cl) k=some bn→ ∃I,b5 (some row) k=some I∧kc s aA bq iy I bn:=by
 have hlen : ∀k I,b5 (some row) k=some I→ ∀e∈I.es,e.length=I.sz:=by
  intro k I ag
  have cz:s.ap r (gT k)=some I:=cF k I ag
  have dD:=cR.obj r (gT k) I cz
  cases ak:ar r (gT k) with
  | none=>rw [ak] at dD;simp only [gk] at dD;rw [dD];simp
  | some q=>rw [ak] at dD;obtain ⟨_,_,_,_,e,_⟩:=dD;exact e
 have mG:sV row→ ∀(k:Nat) bn,b5 (some row) k=some bn→ ∃I,b5 (some row) k=some I∧kc s aA bq iy I bn:=by
  intro ak
  have lN : ∀k I,b5 (some row) k=some I→I∈row:=by
   intro k I ag
   unfold b5 at ag
   simp only at ag
   split at ag
   ·rename_i bn cz
    split at ag
    ·simp at ag
    ·simp at ag;subst ag;exact List.mem_of_getElem? cz
   ·simp at ag
  refine fun k I ag=>⟨I,ag,rfl,.inl rfl,rfl,hlen k I ag,fun j x bN ad cj=> ?_⟩
  rw [ad] at cj;simp at cj;subst cj
  obtain ⟨e,he,lo⟩:=mv ad
  exact .pure (ak I (lN k I ag) e he x lo) trivial
 cases c with
 | pure =>
  simp only [ll,Option.some.injEq,Prod.mk.injEq] at h
  obtain ⟨rfl,rfl⟩:=h
  exact ⟨rfl,mG (aX _ (by simp))⟩
 | dP bt =>
  simp only [ll,Option.some.injEq,Prod.mk.injEq] at h
  obtain ⟨rfl,rfl⟩:=h
  have e:row=bt:=aX _ (by simp)
  subst e
  exact ⟨rfl,mG (aX _ (by simp))⟩
 | eg bt =>
  simp only [ll,Option.some.injEq,Prod.mk.injEq] at h
  obtain ⟨rfl,rfl⟩:=h
  have e:bt=row.map (jR aY):=aX _ (by simp)
  subst e
  exact ⟨by simp,FR cR H cF (fun _ _ _ _ _ _ _=>trivial)⟩
 | rx bt =>
  simp only [ll,Option.some.injEq,Prod.mk.injEq] at h
  obtain ⟨rfl,rfl⟩:=h
  obtain ⟨h1,R⟩:rh aA row bt:=aX _ (by simp)
  refine ⟨h1,fun k bn cz=> ?_⟩
  rw [g8] at cz
  cases o3:bt[k]? with
  | none=>rw [o3] at cz;simp at cz
  | some hx =>
   rw [o3,Option.bind_some] at cz
   split at cz
   ·simp at cz
   ·rename_i d5
    simp only [Option.some.injEq] at cz;subst cz
    have cG:k<row.length:=by have:=dt o3;omega
    have bl:=List.getElem?_eq_getElem cG
    obtain ⟨q1,gF,lY,xn,Ck⟩:=R k _ _ bl o3
    have ag:b5 (some row) k=some row[k]:=by rw [g8,bl,Option.bind_some,if_neg (by rw [← gF];exact d5)]
    refine ⟨_,ag,q1,.inl gF,lY,xn,fun j x bN ad cj=> ?_⟩
    have dD:=cR.obj r (gT k) _ (cF k _ ag)
    cases ak:ar r (gT k) with
    | none=>rw [ak] at dD;simp only [gk] at dD;rw [dD] at ad;simp at ad
    | some mZ =>
     obtain ⟨b,m⟩:=mZ
     rw [ak] at dD
     obtain ⟨c,dH,f1,f2,f3,f4⟩:=dD
     obtain ⟨u,iZ,k6,eH⟩:=f4 j x ad
     rcases Ck j x bN ad cj with ⟨rfl,bb⟩|⟨bj,iX,bk,len,nO,mW,rfl,hm,rfl⟩|rfl|⟨bj,fX,Gw,R,nO,kh,rfl,hm,rfl⟩
     ·exact .pure (eH.qQ bb) trivial
     ·exact .aV bk len hm (by cases eH<;>assumption)
     ·exact .dead _
     ·exact .fD R hm
 | drop =>
  simp only [ll,Option.some.injEq,Prod.mk.injEq] at h
  obtain ⟨rfl,rfl⟩:=h
  refine ⟨by simp,fun k I ag=> ?_⟩
  rw [g8,List.getElem?_map] at ag
  cases bl:row[k]? <;> simp [bl,lG] at ag
 | box l =>
  match row,h with
  | [I],h =>
   simp only [ll] at h
   split at h
   ·rename_i c fk
    split at h
    ·rename_i cr jz a3
     simp only [Option.some.injEq,Prod.mk.injEq] at h
     obtain ⟨rfl,rfl⟩:=h
     refine ⟨rfl,fun k p ak=> ?_⟩
     rw [iD] at ak
     split at ak
     ·rename_i mN
      obtain ⟨rfl,mo⟩:=mN
      simp only [Option.some.injEq] at ak;subst ak
      have h0:b5 (some [I]) 0=some I:=by rw [iD];simpa using mo
      refine ⟨I,h0,?_⟩
      have cz:s.ap r (gT 0)=some I:=cF 0 I h0
      have dD:=cR.obj r (gT 0) I cz
      cases ha:ar r (gT 0) with
      | none=>rw [ha] at dD;simp only [gk] at dD;rw [fk] at dD;simp at dD
      | some q =>
       obtain ⟨b,m⟩:=q
       rw [ha] at dD
       obtain ⟨bO,dH,g1,g2,g3,g4⟩:=dD
       have Bh:c.length=I.sz:=g3 c (by rw [fk];simp)
       have gK:I.es.flatten=c:=by rw [fk];simp
       obtain ⟨e1,az⟩:=sJ (vs:=(List.range c.length).map fun j=>(bO[j]?).getD undef) cR H (nv _) a3 aX (fun _ _=>trivial) (by simp) (by
        intro j y u aP hu
        have aL:=dt aP
        rw [List.getElem?_map,List.getElem?_range aL] at hu
        simp only [Option.map_some,Option.some.injEq] at hu
        obtain ⟨k7,iZ,-,eH⟩:=g4 j y (by rw [gK];exact aP)
        rw [iZ] at hu;simp at hu;subst hu
        exact eH)
       refine ⟨rfl,.inl rfl,by simp [fk],by simp;omega,fun j x bN ad cj=> ?_⟩
       rw [gK] at ad
       simp only [List.flatten_cons,List.flatten_nil,List.append_nil] at cj
       exact az j x bN ad cj
     ·simp at ak
    ·simp at h
   ·simp at h
  | [],h=>simp [ll] at h
  | _::_::_,h=>simp [ll] at h
theorem AB (cR:fj g s ar w) {aA:el} {aY:Nat→Option Nat} (H:i2 s aA aY fQ) : ∀(l:List Nat) (bR:List fA) (T:List (List ae)) (ap:List Prop),
 mI s.aH aY aA l bR=some (T,ap)→(∀p∈ap,p)→T.length=l.length∧ ∀(j:Nat) cl r,T[j]? = some cl→l[j]? = some r→ ∃row,s.aH r=some row∧cl.length=row.length ∧
  ∀(k:Nat) bn,b5 (some cl) k=some bn→ ∃I,b5 (some row) k=some I∧kc s aA fQ iy I bn
 | [],[],T,ap,h,_=>by
  simp [mI] at h;obtain ⟨rfl,rfl⟩:=h
  exact ⟨rfl,fun j cl r aL=>by simp at aL⟩
 | r::l,c::bR,T,ap,h,aX=>by
  simp only [mI] at h
  split at h
  ·rename_i row cF
   split at h
   ·rename_i dr bz jh aO h1 R
    simp only [Option.some.injEq,Prod.mk.injEq] at h
    obtain ⟨rfl,rfl⟩:=h
    obtain ⟨e1,az⟩:=AB cR H l bR jh aO R (fun p ak=>aX p (by simp [ak]))
    have f2:=AA (gT:=id) cR H (fun k I ag=>by unfold S.ap;rw [cF];exact ag) h1 (fun p ak=>aX p (by simp [ak]))
    refine ⟨by simp [e1],fun j cl q aL aU=> ?_⟩
    cases j with
    | zero=>simp at aL aU;subst aL;subst aU;exact ⟨row,cF,f2.1,f2.2⟩
    | succ j=>simp at aL aU;exact az j cl q aL aU
   ·simp at h
  ·simp at h
 | [],_::_,_,_,h,_=>by simp [mI] at h
 | _::_,[],_,_,h,_=>by simp [mI] at h
theorem EW (h:b0 g s ar a w) {aA:el} {aY:Nat→Option Nat} (H:i2 s aA aY fQ) : ∀(l:List (Nat×h5)) (env:List (Nat×av)) (ap:List Prop),
 tf s.aH aY aA s.E l=some (env,ap)→(∀p∈ap,p)→ ∀t,e6 s aA fQ iy (s.E t) (re env t)
 | [],env,ap,ao,_=>by
  simp [tf] at ao;obtain ⟨rfl,rfl⟩:=ao
  intro t;exact .dead _
 | (u,c)::l,env,ap,ao,aX=>by
  simp only [tf] at ao
  split at ao
  ·rename_i v bz Bj aO h1 R
   simp only [Option.some.injEq,Prod.mk.injEq] at ao
   obtain ⟨rfl,rfl⟩:=ao
   have ih:=EW h H l Bj aO R (fun p ak=>aX p (by simp [ak]))
   intro t
   unfold re
   split
   ·rename_i e;subst e
    exact sQ h.tofj H (nv _) h1 (fun p ak=>aX p (by simp [ak])) trivial (h.env t)
   ·exact ih t
  ·simp at ao
theorem oH {l:List Nat} {j i r k:Nat}:jf l j i=some (r,k)↔l[j]? = some r∧i=k:=by
 unfold jf
 cases l[j]? <;> simp
theorem wg {aA:List Nat} (bb:aA.Nodup):i2 s (jf aA) (cZ aA) fQ :=
 ⟨fun _ _ h _=>oH.2 ⟨Ec h,rfl⟩,fun _ ao _ _ _ _ _ _ hm=>by rw [Ed bb (oH.1 hm).1] at ao;simp at ao⟩
theorem FD {aA:List Nat} (hnd:aA.Nodup) {T:List (List ae)} (e1:T.length=aA.length) (az : ∀(j:Nat) cl r,T[j]? = some cl→aA[j]? = some r→ ∃row,s.aH r=some row∧cl.length=row.length ∧
 ∀(k:Nat) bn,b5 (some cl) k=some bn→ ∃I,b5 (some row) k=some I∧kc s (jf aA) fQ iy I bn):k2 s (jf aA) fQ iy (fun j=>T[j]?):=by
 refine ⟨?_,?_,?_⟩
 ·intro j i gu hp p e d4
  obtain ⟨r,k⟩:=p
  obtain ⟨fb,rfl⟩:=oH.1 e
  obtain ⟨hd,rfl⟩:=oH.1 d4
  exact ⟨(List.getElem?_inj (dt fb) hnd).1 (fb.trans hd.symm),rfl⟩
 ·intro j i bn cz
  have cz:b5 (T[j]?) i=some bn:=cz
  cases aL:T[j]? with
  | none=>rw [aL] at cz;simp [b5] at cz
  | some cl =>
   rw [aL] at cz
   have cG:j<aA.length:=by have:=dt aL;omega
   have aU:=List.getElem?_eq_getElem cG
   obtain ⟨row,f1,-,f2⟩:=az j cl _ aL aU
   obtain ⟨I,g1,g2⟩:=f2 i bn cz
   exact ⟨_,i,I,oH.2 ⟨aU,rfl⟩,by unfold S.ap;rw [f1];exact g1,g2⟩
 ·intro j i r k e hu
  obtain ⟨fb,rfl⟩:=oH.1 e
  have cG:j<T.length:=by have:=dt fb;omega
  obtain ⟨row,f1,f2,-⟩:=az j _ r (List.getElem?_eq_getElem cG) fb
  show i<((T[j]?).getD []).length
  rw [List.getElem?_eq_getElem cG]
  show i<T[j].length
  rw [f2]
  simpa [S.aI,f1] using hu
theorem EX {aA:List Nat} {g:G} (cR:fj g s ar w) (lS:tg aA g.m=true) : ∀j k,g.ks j k→jf aA j k=some (j,k):=by
 intro j k aL
 unfold tg at lS
 have:=List.all_eq_true.1 lS j (List.mem_range.2 (cR.low j k aL))
 exact oH.2 ⟨by simpa using this,rfl⟩
theorem MG (h:b0 g s ar a w) {aA:List Nat} {bR:List fA} {jY:List (Nat×h5)} {bh:S} {n:Nat} {ap:List Prop} (ao:we g.m s aA bR jY=some (bh,n,ap)) (aX : ∀p∈ap,p) :
 bh.hh n∧b0 g bh (gC ar (jf aA)) a w:=by
 unfold we at ao
 split at ao
 ·rename_i a3
  simp only [Bool.and_eq_true,decide_eq_true_eq] at a3
  obtain ⟨hnd,lS⟩:=a3
  split at ao
  ·rename_i T bz env aO h1 R
   simp only [Option.some.injEq,Prod.mk.injEq] at ao
   obtain ⟨rfl,rfl,rfl⟩:=ao
   refine ⟨oE _ _,?_⟩
   obtain ⟨e1,az⟩:=AB h.tofj (wg hnd) aA bR T bz h1 (fun p ak=>aX p (by simp [ak]))
   refine h.Fi (aA:=jf aA) (q:=iy) (FD hnd e1 az) (EW h (wg hnd) jY env aO R (fun p ak=>aX p (by simp [ak]))) (EX h.tofj lS)
  ·simp at ao
 ·simp at ao
def hZ (l:List jx):el:=fun j i=>match l[j]? with
 | some ey=>if i<ey.a9.length then ey.a9[i]? else (match ey.fM with
  | some (r,n)=>some (r,i-ey.a9.length+n)
  | none=>none)
 | none=>none
def oV (n:Nat):List jx→Nat→Option Nat
 | [],_=>none
 | ey::l,r=>if ey={a9:=[],fM:=some (r,0)} then some n else oV (n+1) l r
def nr (r k:Nat) (ey:jx):Bool:=ey.a9.contains (r,k) || (match ey.fM with|some (q,n)=>q == r && decide (n≤k)|none=>false)
def AV (ey:jx):Bool:=decide ey.a9.Nodup && ey.a9.all fun p=>match ey.fM with|some (q,n)=> !(q == p.1 && decide (n≤p.2))|none=>true
def vI (a b:jx):Bool:=(a.a9.all fun p=> !nr p.1 p.2 b) && (b.a9.all fun p=> !nr p.1 p.2 a) && (match a.fM,b.fM with|some (q,_),some (e5,_)=> !(q == e5)|_,_=>true)
def s8:List jx→Bool
 | []=>true
 | a::l=>AV a && l.all (vI a) && s8 l
def FE (l:List jx) (m:Nat):Bool:=(List.range m).all fun j=>l[j]? == some {a9:=[],fM:=some (j,0)}
def oO (aH:Nat→Option (List ae)) (aY:Nat→Option Nat) (aA:el):List (Nat×Nat)→List fA→Option (List ae×List Prop)
 | [],[]=>some ([],[])
 | (r,k)::l,c::bR=>match b5 (aH r) k with
  | some I=>match ll aH aY aA hs c [I],oO aH aY aA l bR with
   | some ([bn],bz),some (T,aO)=>some (bn::T,bz++aO)
   | _,_=>none
  | none=>none
 | _,_=>none
def qS (aH:Nat→Option (List ae)) (aY:Nat→Option Nat) (aA:el):Option (Nat×Nat)→Option fA→Option (List ae×List Prop)
 | none,none=>some ([],[])
 | some (r,n),some c=>match aH r with
  | some row=>ll aH aY aA hs c (row.drop n)
  | none=>none
 | _,_=>none
def oP (aH:Nat→Option (List ae)) (aY:Nat→Option Nat) (aA:el):List jx→List (List fA×Option fA)→Option (List (List ae)×List Prop)
 | [],[]=>some ([],[])
 | ey::l,(Cm,Hc)::bR=>match oO aH aY aA ey.a9 Cm,qS aH aY aA ey.fM Hc,oP aH aY aA l bR with
  | some (a,bz),some (b,aO),some (T,eJ)=>some ((a++b)::T,bz++aO++eJ)
  | _,_,_=>none
 | _,_=>none
def s9 (aH:Nat→Option (List ae)) (aY:Nat→Option Nat) (aA:el) (E:Nat→av):List (Nat×h5)→Option (List (Nat×av)×List Prop)
 | []=>some ([],[])
 | (t,c)::l=>match jK aH aY aA hs c (E t),s9 aH aY aA E l with
  | some (v,bz),some (env,aO)=>some ((t,v)::env,bz++aO)
  | _,_=>none
def vX (m:Nat) (s:S) (l:List jx) (bR:List (List fA×Option fA)) (jY:List (Nat×h5)):Option (S×Nat×List Prop) :=
 if s8 l && FE l m then
  match oP s.aH (oV 0 l) (hZ l) l bR,s9 s.aH (oV 0 l) (hZ l) s.E jY with
  | some (T,bz),some (env,aO)=>some (c6 env T,T.length,bz++aO)
  | _,_=>none
 else none
theorem AW {l:List jx} {j i r k:Nat} (h:hZ l j i=some (r,k)) : ∃ey,l[j]? = some ey∧nr r k ey=true∧(if i<ey.a9.length then ey.a9[i]? = some (r,k) else ∃n,ey.fM=some (r,n)∧k=i-ey.a9.length+n):=by
 unfold hZ at h
 cases aL:l[j]? with
 | none=>rw [aL] at h;simp at h
 | some ey =>
  rw [aL] at h
  simp only at h
  refine ⟨ey,rfl,?_⟩
  split at h
  ·rename_i cG
   rw [if_pos cG]
   exact ⟨by unfold nr;simp [List.mem_of_getElem? h],h⟩
  ·rename_i cG
   rw [if_neg cG]
   split at h
   ·rename_i cS n bK
    simp only [Option.some.injEq,Prod.mk.injEq] at h
    obtain ⟨rfl,rfl⟩:=h
    exact ⟨by unfold nr;simp [bK],n,bK,rfl⟩
   ·simp at h
theorem EF : ∀ {l:List jx},s8 l=true→(∀(j:Nat) a,l[j]? = some a→AV a=true)∧ ∀(i j:Nat) a b,i<j→l[i]? = some a→l[j]? = some b→vI a b=true
 | [],_=>⟨fun j a h=>by simp at h,fun i j a b _ h=>by simp at h⟩
 | c::l,h=>by
  simp only [s8,Bool.and_eq_true] at h
  obtain ⟨⟨h1,R⟩,ai⟩:=h
  obtain ⟨e1,az⟩:=EF ai
  refine ⟨fun j a aL=> ?_,fun i j a b rc bL aW=> ?_⟩
  ·cases j with
   | zero=>simp at aL;subst aL;exact h1
   | succ j=>exact e1 j a (by simpa using aL)
  ·cases j with
   | zero=>omega
   | succ j =>
    simp at aW
    cases i with
    | zero=>simp at bL;subst bL;exact List.all_eq_true.1 R b (List.mem_of_getElem? aW)
    | succ i=>exact az i j a b (by omega) (by simpa using bL) aW
theorem D2 {a b:jx} {r k:Nat} (h:vI a b=true) (bL:nr r k a=true) (aW:nr r k b=true):False:=by
 simp only [vI,Bool.and_eq_true,List.all_eq_true] at h
 obtain ⟨⟨h1,R⟩,ai⟩:=h
 have OS:=bL
 have tB:=aW
 simp only [nr,Bool.or_eq_true,List.contains_iff_mem] at bL aW
 rcases bL with bL|bL
 ·have:=h1 _ bL;simp [tB] at this
 ·rcases aW with aW|aW
  ·have:=R _ aW;simp [OS] at this
  ·cases e1:a.fM with
   | none=>rw [e1] at bL;simp at bL
   | some p =>
    obtain ⟨q,n⟩:=p
    cases az:b.fM with
    | none=>rw [az] at aW;simp at aW
    | some hx =>
     obtain ⟨e5,jC⟩:=hx
     rw [e1] at bL;rw [az] at aW;rw [e1,az] at ai
     simp at bL aW ai
     exact ai (bL.1.trans aW.1.symm)
theorem M2 {l:List jx} (aK:s8 l=true) : ∀j i gu hp p,hZ l j i=some p→hZ l gu hp=some p→j=gu∧i=hp:=by
 intro j i gu hp p h b9
 obtain ⟨r,k⟩:=p
 obtain ⟨ey,fb,hd,cw⟩:=AW h
 obtain ⟨wW,iY,jD,nR⟩:=AW b9
 obtain ⟨e1,az⟩:=EF aK
 have aL:j=gu:=by
  rcases Nat.lt_trichotomy j gu with e|e|e
  ·exact (D2 (az j gu ey wW e fb iY) hd jD).elim
  ·exact e
  ·exact (D2 (az gu j wW ey e iY fb) jD hd).elim
 subst aL
 rw [fb] at iY;simp at iY;subst iY
 refine ⟨rfl,?_⟩
 have h1:=e1 j ey fb
 simp only [AV,Bool.and_eq_true,decide_eq_true_eq,List.all_eq_true] at h1
 obtain ⟨n1,g7⟩:=h1
 split at cw<;>split at nR
 ·exact (List.getElem?_inj (by assumption) n1).1 (cw.trans nR.symm)
 ·obtain ⟨n,t1,t2⟩:=nR
  have:=g7 _ (List.mem_of_getElem? cw)
  rw [t1] at this;simp at this;omega
 ·obtain ⟨n,t1,t2⟩:=cw
  have:=g7 _ (List.mem_of_getElem? nR)
  rw [t1] at this;simp at this;omega
 ·obtain ⟨n,t1,t2⟩:=cw
  obtain ⟨jC,GH,Q1⟩:=nR
  rw [t1] at GH;simp at GH;omega
theorem EG : ∀ {l:List jx} {n r j:Nat},oV n l r=some j→n≤j∧l[j-n]? = some {a9:=[],fM:=some (r,0)}
 | [],_,_,_,h=>by simp [oV] at h
 | ey::l,n,r,j,h=>by
  simp only [oV] at h
  split at h
  ·rename_i e;simp at h;subst h;exact ⟨Nat.le_refl _,by simp [e]⟩
  ·obtain ⟨h1,R⟩:=EG h
   exact ⟨by omega,by rw [show j-n=(j-(n+1))+1 by omega,List.getElem?_cons_succ];exact R⟩
theorem Gf (l:List jx):i2 s (hZ l) (oV 0 l) hs:=by
 refine ⟨fun r j aL k=> ?_,fun _ _ _ _ _ bL=>by simp [hs] at bL⟩
 obtain ⟨-,R⟩:=EG aL
 simp only [hZ,show l[j]? = some {a9:=[],fM:=some (r,0)} by simpa using R]
 simp
theorem EY (cR:fj g s ar w) {aA:el} {aY:Nat→Option Nat} (H:i2 s aA aY hs) : ∀(l:List (Nat×Nat)) (bR:List fA) (T:List ae) (ap:List Prop),
 oO s.aH aY aA l bR=some (T,ap)→(∀p∈ap,p)→T.length=l.length∧ ∀(i:Nat) bn,b5 (some T) i=some bn→ ∃r k I,l[i]? = some (r,k)∧s.ap r k=some I∧kc s aA hs iy I bn
 | [],[],T,ap,h,_=>by
  simp [oO] at h;obtain ⟨rfl,rfl⟩:=h
  exact ⟨rfl,fun i bn ag=>by simp [b5] at ag⟩
 | (r,k)::l,c::bR,T,ap,h,aX=>by
  simp only [oO] at h
  split at h
  ·rename_i I ag
   split at h
   ·rename_i p bz jh aO h1 R
    simp only [Option.some.injEq,Prod.mk.injEq] at h
    obtain ⟨rfl,rfl⟩:=h
    obtain ⟨e1,az⟩:=EY cR H l bR jh aO R (fun p ak=>aX p (by simp [ak]))
    have iv : ∀ck bn,b5 (some [I]) ck=some bn→bn=I:=fun ck bn bl=>by
     rw [iD] at bl;split at bl
     ·simp at bl;exact bl.symm
     ·simp at bl
    have cz:s.ap r k=some I:=ag
    obtain ⟨f0,f1⟩:=AA (r:=r) (gT:=fun _=>k) cR H (fun ck bn bl=>by rw [iv ck bn bl];exact cz) h1 (fun p ak=>aX p (by simp [ak]))
    refine ⟨by simp [e1],fun i bn a6=> ?_⟩
    cases i with
    | zero =>
     have a6:b5 (some [p]) 0=some bn:=by rw [g8] at a6 ⊢;simpa using a6
     obtain ⟨aO,g1,g2⟩:=f1 0 bn a6
     rw [iv 0 aO g1] at g2
     exact ⟨r,k,I,rfl,cz,g2⟩
    | succ i =>
     have a6:b5 (some jh) i=some bn:=by rw [g8] at a6 ⊢;simpa using a6
     obtain ⟨cS,ck,aO,g1,g2,g3⟩:=az i bn a6
     exact ⟨cS,ck,aO,by simpa using g1,g2,g3⟩
   ·simp at h
  ·simp at h
 | [],_::_,_,_,h,_=>by simp [oO] at h
 | _::_,[],_,_,h,_=>by simp [oO] at h
theorem MH (cR:fj g s ar w) {aA:el} {aY:Nat→Option Nat} (H:i2 s aA aY hs) {fM:Option (Nat×Nat)} {bR:Option fA} {T:List ae} {ap:List Prop}
 (h:qS s.aH aY aA fM bR=some (T,ap)) (aX : ∀p∈ap,p):(∀r n k,fM=some (r,n)→s.aI r (k+n)→k<T.length) ∧
   ∀(i:Nat) bn,b5 (some T) i=some bn→ ∃r n I,fM=some (r,n)∧s.ap r (i+n)=some I∧kc s aA hs iy I bn:=by
 cases fM with
 | none =>
  cases bR with
  | none =>
   simp [qS] at h;obtain ⟨rfl,rfl⟩:=h
   exact ⟨fun r n k e=>by simp at e,fun i bn ag=>by simp [b5] at ag⟩
  | some c=>simp [qS] at h
 | some p =>
  obtain ⟨r,n⟩:=p
  cases bR with
  | none=>simp [qS] at h
  | some c =>
   simp only [qS] at h
   split at h
   ·rename_i row cF
    have a9 : ∀k I,b5 (some (row.drop n)) k=some I→s.ap r (k+n)=some I:=fun k I ag=>by
     unfold S.ap;rw [cF,g8];rw [g8,List.getElem?_drop] at ag;rw [Nat.add_comm];exact ag
    obtain ⟨f0,f1⟩:=AA (r:=r) (gT:=fun k=>k+n) cR H a9 h aX
    refine ⟨fun cS jC k e bl=> ?_,fun i bn ag=> ?_⟩
    ·simp only [Option.some.injEq,Prod.mk.injEq] at e
     obtain ⟨rfl,rfl⟩:=e
     rw [f0,List.length_drop]
     simp [S.aI,cF] at bl
     omega
    ·obtain ⟨I,g1,g2⟩:=f1 i bn ag
     exact ⟨r,n,I,rfl,a9 i I g1,g2⟩
   ·simp at h
theorem La {a b:List ae} {i:Nat}:b5 (some (a++b)) i=if i<a.length then b5 (some a) i else b5 (some b) (i-a.length):=by
 rw [g8,g8,g8,List.getElem?_append]
 split<;>rfl
theorem EZ (cR:fj g s ar w) {aA:el} {aY:Nat→Option Nat} (H:i2 s aA aY hs) : ∀(l:List jx) (bR:List (List fA×Option fA)) (T:List (List ae)) (ap:List Prop),
 oP s.aH aY aA l bR=some (T,ap)→(∀p∈ap,p)→T.length=l.length∧ ∀(j:Nat) cl ey,T[j]? = some cl→l[j]? = some ey →
  (ey.a9.length≤cl.length)∧(∀r n k,ey.fM=some (r,n)→s.aI r (k+n)→k+ey.a9.length<cl.length) ∧
  ∀(i:Nat) bn,b5 (some cl) i=some bn→ ∃r k I,(if i<ey.a9.length then ey.a9[i]? = some (r,k) else ∃n,ey.fM=some (r,n)∧k=i-ey.a9.length+n)∧s.ap r k=some I∧kc s aA hs iy I bn
 | [],[],T,ap,h,_=>by
  simp [oP] at h;obtain ⟨rfl,rfl⟩:=h
  exact ⟨rfl,fun j cl ey aL=>by simp at aL⟩
 | ey::l,(Cm,Hc)::bR,T,ap,h,aX=>by
  simp only [oP] at h
  split at h
  ·rename_i a bz b aO jh eJ h1 R ai
   simp only [Option.some.injEq,Prod.mk.injEq] at h
   obtain ⟨rfl,rfl⟩:=h
   obtain ⟨e1,az⟩:=EZ cR H l bR jh eJ ai (fun p ak=>aX p (by simp [ak]))
   obtain ⟨f1,f2⟩:=EY cR H ey.a9 Cm a bz h1 (fun p ak=>aX p (by simp [ak]))
   obtain ⟨g1,g2⟩:=MH cR H R (fun p ak=>aX p (by simp [ak]))
   refine ⟨by simp [e1],fun j cl wW aL wX=> ?_⟩
   cases j with
   | zero =>
    simp at aL wX;subst aL;subst wX
    refine ⟨by simp [f1],fun r n k e bl=> ?_,fun i bn ag=> ?_⟩
    ·have:=g1 r n k e bl
     simp [f1];omega
    ·rw [La,f1] at ag
     split at ag
     ·rename_i cG
      obtain ⟨r,k,I,q1,gF,lY⟩:=f2 i bn ag
      exact ⟨r,k,I,by rw [if_pos cG];exact q1,gF,lY⟩
     ·rename_i cG
      obtain ⟨r,n,I,q1,gF,lY⟩:=g2 _ bn ag
      exact ⟨r,_,I,by rw [if_neg cG];exact ⟨n,q1,rfl⟩,gF,lY⟩
   | succ j=>simp at aL wX;exact az j cl wW aL wX
  ·simp at h
 | [],_::_,_,_,h,_=>by simp [oP] at h
 | _::_,[],_,_,h,_=>by simp [oP] at h
theorem EH (h:b0 g s ar a w) {aA:el} {aY:Nat→Option Nat} (H:i2 s aA aY hs) : ∀(l:List (Nat×h5)) (env:List (Nat×av)) (ap:List Prop),
 s9 s.aH aY aA s.E l=some (env,ap)→(∀p∈ap,p)→ ∀t,e6 s aA hs iy (s.E t) (re env t)
 | [],env,ap,ao,_=>by
  simp [s9] at ao;obtain ⟨rfl,rfl⟩:=ao
  intro t;exact .dead _
 | (u,c)::l,env,ap,ao,aX=>by
  simp only [s9] at ao
  split at ao
  ·rename_i v bz Bj aO h1 R
   simp only [Option.some.injEq,Prod.mk.injEq] at ao
   obtain ⟨rfl,rfl⟩:=ao
   have ih:=EH h H l Bj aO R (fun p ak=>aX p (by simp [ak]))
   intro t
   unfold re
   split
   ·rename_i e;subst e
    exact sQ h.tofj H (nv _) h1 (fun p ak=>aX p (by simp [ak])) trivial (h.env t)
   ·exact ih t
  ·simp at ao
theorem e6.wide {aA:el} {bq GI:dV→Bool} {q:av→Prop} (h : ∀k,bq k=true→GI k=true) {x bN:av} (cB:e6 s aA bq q x bN):e6 s aA GI q x bN:=by
 induction cB with
 | dead x=>exact .dead x
 | pure ak aU=>exact .pure ak aU
 | cT sz=>exact .cT sz
 | fp sz=>exact .fp sz
 | v9 sz=>exact .v9 sz
 | fT h ih=>exact .fT ih
 | ref i off hm hu=>exact .ref i off hm hu
 | aV bk len hm hu=>exact .aV bk len hm hu
 | i5 r c sz=>exact .i5 r c sz
 | jN h ih=>exact .jN ih
 | fD h hm=>exact .fD h hm
 | ee i off ag bL ao dN ak hle aK dy ih=>exact .ee i off ag (h _ bL) ao dN ak hle aK ih
 | isl ag bL ao iw ak hle aK dy ih=>exact .isl ag (h _ bL) ao iw ak hle aK ih
 | agg aK dy ih=>exact .agg aK ih
 | cy aK dy ih=>exact .cy aK ih
 | fn aK dy ih=>exact .fn aK ih
theorem L3 (h:b0 g s ar a w) {l:List jx} {bR:List (List fA×Option fA)} {jY:List (Nat×h5)} {bh:S} {n:Nat} {ap:List Prop} (ao:vX g.m s l bR jY=some (bh,n,ap)) (aX : ∀p∈ap,p) :
 bh.hh n∧b0 g bh (gC ar (hZ l)) a w:=by
 unfold vX at ao
 split at ao
 ·rename_i a3
  simp only [Bool.and_eq_true] at a3
  obtain ⟨hH,lS⟩:=a3
  split at ao
  ·rename_i T bz env aO h1 R
   simp only [Option.some.injEq,Prod.mk.injEq] at ao
   obtain ⟨rfl,rfl,rfl⟩:=ao
   refine ⟨oE _ _,?_⟩
   obtain ⟨e1,az⟩:=EZ h.tofj (Gf l) l bR T bz h1 (fun p ak=>aX p (by simp [ak]))
   have c4:=EH h (Gf l) jY env aO R (fun p ak=>aX p (by simp [ak]))
   refine h.Fi (aA:=hZ l) (q:=iy) ⟨M2 hH,?_,?_⟩ (fun t=>(c4 t).wide fun _ bL=>by simp [hs] at bL) ?_
   ·intro j i bn cz
    have cz:b5 (T[j]?) i=some bn:=cz
    cases aL:T[j]? with
    | none=>rw [aL] at cz;simp [b5] at cz
    | some cl =>
     rw [aL] at cz
     have cG:j<l.length:=by have:=dt aL;omega
     have aU:=List.getElem?_eq_getElem cG
     obtain ⟨r,k,I,g1,g2,g3⟩:=(az j cl _ aL aU).2.2 i bn cz
     refine ⟨r,k,I,?_,g2,⟨g3.sz,g3.bC,g3.len,g3.each,fun j x bN ad cj=>(g3.at_ j x bN ad cj).wide fun _ bL=>by simp [hs] at bL⟩⟩
     simp only [hZ,aU]
     split at g1
     ·rename_i aK;rw [if_pos aK];exact g1
     ·rename_i aK;rw [if_neg aK];obtain ⟨n,t1,t2⟩:=g1;rw [t1,t2]
   ·intro j i r k e hu
    obtain ⟨ey,fb,hd,cw⟩:=AW e
    have cG:j<T.length:=by have:=dt fb;omega
    obtain ⟨iY,jD,-⟩:=az j _ ey (List.getElem?_eq_getElem cG) fb
    show i<((T[j]?).getD []).length
    rw [List.getElem?_eq_getElem cG]
    show i<T[j].length
    split at cw
    ·omega
    ·rename_i aK
     obtain ⟨n,t1,t2⟩:=cw
     have:=jD r n (i-ey.a9.length) t1 (by rw [← t2];exact hu)
     omega
   ·intro j k aL
    unfold FE at lS
    have:=List.all_eq_true.1 lS j (List.mem_range.2 (h.low j k aL))
    simp only [beq_iff_eq] at this
    simp only [hZ,this]
    simp
  ·simp at ao
 ·simp at ao
theorem b0.more (h:b0 g s ar a w) {aD:Nat} {row:List ae} (cV:s.aH aD=none) (cF : ∀I∈row,I.es=[]) :
 ∃bc,(∀k,bc aD k=none)∧b0 g (s.setRow aD row) bc a w:=by
 let s2:=s.setRow aD row
 let bc:dB:=fun q k=>if q=aD then none else ar q k
 have dN : ∀q k,s.aI q k→q≠aD:=by
  rintro q k aU rfl;exact qb cV k aU
 have ca : ∀q,q≠aD→s2.aH q=s.aH q:=fun q aU=>by simp [s2,S.setRow,aU]
 have OT:s2.aH aD=some row:=by simp [s2,S.setRow]
 have Bd : ∀k I,s2.ap aD k=some I→I.es=[]:=by
  intro k I ag
  unfold S.ap at ag
  rw [OT] at ag
  unfold b5 at ag
  simp only at ag
  split at ag
  ·rename_i bn cz
   split at ag
   ·simp at ag
   ·simp at ag;subst ag;exact cF _ (List.mem_of_getElem? cz)
  ·simp at ag
 have aX : ∀q k,q≠aD→s2.ap q k=s.ap q k:=fun q k aU=>by unfold S.ap;rw [ca q aU]
 have hX : ∀q k,q≠aD→s2.aR bc q k=s.aR ar q k:=fun q k aU=>by simp [S.aR,aX q k aU,bc,aU]
 have cW:Step g s ar w s2 bc w:=⟨fun q k aU=>by unfold S.aI;rw [ca q (dN q k aU)];exact aU,fun q k aU=> .inl (hX q k (dN q k aU)),fun b aK=>by
  obtain ⟨q,k,I,m,h1,R,ai⟩:=aK
  by_cases e:q=aD
  ·subst e;simp [bc] at ai
  ·rw [aX q k e] at h1
   simp only [bc,if_neg e] at ai
   exact .inl ⟨q,k,I,m,h1,R,ai⟩,fun _ _ _=>rfl,Nat.le_refl _⟩
 have cR:fj g s2 bc w:=by
  refine ⟨?_,?_,?_,h.fc,h.mlt,h.jv,?_,h.low⟩
  ·intro q k I ag
   by_cases e:q=aD
   ·subst e
    simp only [bc,if_true,gk]
    exact Bd k I ag
   ·rw [aX q k e] at ag
    have:=cW.obj (fun b m _=>rfl) (h.obj q k I ag)
    simpa [bc,e] using this
  ·intro q k I e5 ck bn b m dp h1 R ai ax
   have e:q≠aD:=by rintro rfl;simp [bc] at ai
   have d4:e5≠aD:=by rintro rfl;simp [bc] at ax
   rw [aX q k e] at h1
   rw [aX e5 ck d4] at R
   simp only [bc,if_neg e] at ai
   simp only [bc,if_neg d4] at ax
   exact h.inj q k I e5 ck bn b m dp h1 R ai ax
  ·intro q k I b m h1 R
   have e:q≠aD:=by rintro rfl;simp [bc] at R
   rw [aX q k e] at h1
   simp only [bc,if_neg e] at R
   exact h.own q k I b m h1 R
  ·intro j k aL
   obtain ⟨e1,az⟩:=h.stay j k aL
   refine ⟨by unfold S.aI;rw [ca j (dN j k e1)];exact e1,?_⟩
   rw [hX j k (dN j k e1)];exact az
 exact ⟨bc,fun k=>by simp [bc],{tofj:=cR,env:=fun u=>cW.rel (h.env u),defers:=h.defers,gB:=h.gB}⟩
theorem b0.Ns (h:b0 g s ar a w) {r mq:Nat} {bC:dV} {c cr:List av} (cF:s.aH r=some [⟨mq,[c],bC⟩]) (aK:cr.length=c.length)
 (a3 : ∀(j:Nat) x bN,c[j]? = some x→cr[j]? = some bN→ ∀v,Rel w (s.ok g ar w) s.aI (s.aR ar) x v→Rel w (s.ok g ar w) s.aI (s.aR ar) bN v) :
 b0 g (s.setRow r [⟨mq,[cr],bC⟩]) ar a w:=by
 let s2:=s.setRow r [⟨mq,[cr],bC⟩]
 have aX : ∀q k,s2.ap q k=if q=r then (s.ap q k).map (fun I=>{I with es:=[cr]}) else s.ap q k:=by
  intro q k
  show (s.setRow r _).ap q k=_
  rw [il]
  split
  ·rename_i e;subst e
   unfold S.ap
   rw [cF,iD,iD]
   split<;>rfl
  ·rfl
 have f9:s2.aI=s.aI:=by
  funext q k
  show (s.setRow r _).aI q k=_
  refine propext ((jo s r _ q k).trans ?_)
  split
  ·rename_i e;subst e;simp [S.aI,cF]
  ·rfl
 have hX:s2.aR ar=s.aR ar:=by
  funext q k
  unfold S.aR
  rw [aX]
  split
  ·cases s.ap q k<;>rfl
  ·rfl
 have OU:s2.iq ar=s.iq ar:=by
  funext b
  unfold S.iq
  refine propext ⟨fun ⟨q,k,I,m,h1,R,ai⟩=> ?_,fun ⟨q,k,I,m,h1,R,ai⟩=> ?_⟩
  ·rw [aX] at h1
   split at h1
   ·rw [Option.map_eq_some_iff] at h1
    obtain ⟨bn,ax,rfl⟩:=h1
    exact ⟨q,k,bn,m,ax,R,ai⟩
   ·exact ⟨q,k,I,m,h1,R,ai⟩
  ·by_cases e:q=r
   ·exact ⟨q,k,{I with es:=[cr]},m,by rw [aX,if_pos e,h1];rfl,R,ai⟩
   ·exact ⟨q,k,I,m,by rw [aX,if_neg e];exact h1,R,ai⟩
 have hH:s2.ok g ar w=s.ok g ar w:=by funext b;unfold S.ok;rw [OU]
 have cR:fj g s2 ar w:=by
  refine ⟨?_,?_,?_,h.fc,h.mlt,h.jv,?_,h.low⟩
  ·intro q k I ag
   rw [hH,f9,hX]
   rw [aX] at ag
   split at ag
   ·rename_i e;subst e
    rw [Option.map_eq_some_iff] at ag
    obtain ⟨bn,ax,rfl⟩:=ag
    have aM:=h.obj _ k bn ax
    have ba:bn=⟨mq,[c],bC⟩:=by
     unfold S.ap at ax
     rw [cF,iD] at ax
     split at ax<;>simp at ax
     exact ax.symm
    subst ba
    cases ak:ar q k with
    | none=>rw [ak] at aM;simp [gk] at aM
    | some p =>
     rw [ak] at aM
     obtain ⟨PO,dH,g1,g2,g3,g4⟩:=aM
     refine ⟨PO,dH,g1,g2,fun e he=> ?_,fun j x ad=> ?_⟩
     ·simp at he;subst he;rw [aK];exact g3 c (by simp)
     ·simp at ad
      have aL:=dt ad
      have fL:=List.getElem?_eq_getElem (show j<c.length by omega)
      obtain ⟨v,v1,v2,v3⟩:=g4 j c[j] (by simp)
      exact ⟨v,v1,v2,a3 j _ _ fL ad v v3⟩
   ·exact h.obj q k I ag
  ·intro q k I e5 ck bn b m dp h1 R ai ax
   have e1 : ∃I,s.ap q k=some I:=by
    rw [aX] at h1;split at h1
    ·rw [Option.map_eq_some_iff] at h1;obtain ⟨bn,aM,-⟩:=h1;exact ⟨bn,aM⟩
    ·exact ⟨I,h1⟩
   have az : ∃I,s.ap e5 ck=some I:=by
    rw [aX] at R;split at R
    ·rw [Option.map_eq_some_iff] at R;obtain ⟨bn,aM,-⟩:=R;exact ⟨bn,aM⟩
    ·exact ⟨bn,R⟩
   obtain ⟨bz,e1⟩:=e1
   obtain ⟨aO,az⟩:=az
   exact h.inj q k bz e5 ck aO b m dp e1 az ai ax
  ·intro q k I b m h1 R
   rw [aX] at h1;split at h1
   ·rw [Option.map_eq_some_iff] at h1;obtain ⟨bn,aM,-⟩:=h1;exact h.own q k bn b m aM R
   ·exact h.own q k I b m h1 R
  ·intro j k aL
   rw [f9,hX]
   exact h.stay j k aL
 refine {tofj:=cR,env:=fun u=> ?_,defers:=h.defers,gB:=h.gB}
 have:=h.env u
 rw [hH,f9,hX];exact this
theorem b0.NN (h:b0 g s ar a w) {aD r j mq sz:Nat} {bC:dV} {c:List av} (cV:s.aH aD=none) (cF:s.aH r=some [⟨mq,[c],bC⟩]) (aL:c[j]? = some .cT) :
 ∃bc,b0 g ((s.setRow aD [⟨sz,[],.live⟩]).setRow r [⟨mq,[c.set j (.aV aD 0 0 0)],bC⟩]) bc a w:=by
 obtain ⟨bc,bb,b9⟩:=h.more (row:=[⟨sz,[],.live⟩]) cV (fun I ag=>by simp at ag;subst ag;rfl)
 have dN:r≠aD:=by rintro rfl;rw [cF] at cV;simp at cV
 refine ⟨bc,b9.Ns (c:=c) (by simp [S.setRow,dN,cF]) (by simp) (fun i x bN ad cj v aS=> ?_)⟩
 rw [List.getElem?_set] at cj
 split at cj
 ·rename_i e;subst e
  split at cj
  ·simp at cj;subst cj
   rw [aL] at ad;simp at ad;subst ad
   rw [aS.kN]
   refine .j2 (sz:=sz) (by simp [S.aI,S.setRow]) ?_
   unfold S.aR S.ap
   rw [show (s.setRow aD [⟨sz,[],.live⟩]).aH aD=some [⟨sz,[],.live⟩] by simp [S.setRow],iD]
   simp [bb]
  ·simp at cj
 ·rw [ad] at cj;simp at cj;subst cj;exact aS
theorem b0.tw (h:b0 g s ar a w) {aD t sz:Nat} (cV:s.aH aD=none) (bK:s.E t = .cT) :
 ∃bc,b0 g {E:=fun u=>if u=t then .aV aD 0 0 0 else s.E u,aH:=(s.setRow aD [⟨sz,[],.live⟩]).aH} bc a w:=by
 obtain ⟨bc,bb,b9⟩:=h.more (row:=[⟨sz,[],.live⟩]) cV (fun I ag=>by simp at ag;subst ag;rfl)
 refine ⟨bc,{tofj:=b9.tofj.congr rfl,env:=fun u=> ?_,defers:=b9.defers,gB:=b9.gB}⟩
 have e1 : ∀pk:S,pk.aH=(s.setRow aD [⟨sz,[],.live⟩]).aH→Rel w ((s.setRow aD [⟨sz,[],.live⟩]).ok g bc w) (s.setRow aD [⟨sz,[],.live⟩]).aI ((s.setRow aD [⟨sz,[],.live⟩]).aR bc)=Rel w (pk.ok g bc w) pk.aI (pk.aR bc):=fun pk e=>by
  rw [sP e,qz e,qA e]
 refine Eq.mp (congrFun (congrFun (e1 {E:=fun u=>if u=t then .aV aD 0 0 0 else s.E u,aH:=(s.setRow aD [⟨sz,[],.live⟩]).aH} rfl) _) _) ?_
 show Rel _ _ _ _ (if u=t then .aV aD 0 0 0 else s.E u) _
 split
 ·rename_i e;subst e
  have h0:=h.env u
  rw [bK] at h0
  rw [h0.kN]
  refine .j2 (sz:=sz) (by simp [S.aI,S.setRow]) ?_
  unfold S.aR S.ap
  rw [show (s.setRow aD [⟨sz,[],.live⟩]).aH aD=some [⟨sz,[],.live⟩] by simp [S.setRow],iD]
  simp [bb]
 ·exact b9.env u
end
end Go.VL
namespace Go.VL
set_option linter.unusedVariables false
set_option linter.unusedSimpArgs false
open Go
def gb (P:Program) (N m:Nat) (c:Code) (e:Exit) (s bh:S):Prop :=
 ∀(g:G) ar a w,g.N=N→g.m=m→b0 g s ar a w→c.wp P (fun d4 cE bo=>d4=e∧ ∃bc,b0 g bh bc cE bo) a w
inductive pn where
 | normal
 | exit (id:Nat)
 | ret
def pn.x:pn→Exit
 | .normal=> .normal
 | .exit id=> .exit id
 | .ret=> .ret
inductive bx where
 | J (bX:List (ea×Bool))
 | af (b:Bool)
 | a0 (aA:List Nat) (bR:List fA) (jY:List (Nat×h5))
 | ri (l:List jx) (bR:List (List fA×Option fA)) (jY:List (Nat×h5))
 | fK (r:Nat)
 | tw (t sz:Nat)
 | tY (r j sz:Nat)
 | GJ
 | sub (e:pn) (env:List (Nat×av)) (rows:List (List ae))
structure Hd where
 e:Exit
 s:S
 aD:Nat
 tape:List bx
 dR:List Prop
def iG (m:Nat):List bx→S→Nat→Option (List bx×S×Nat×List Prop)
 | .a0 aA bR jY::tape,s,aD=>match we m s aA bR jY with
  | some (s1,n1,bz)=>match iG m tape s1 n1 with
   | some (t2,s2,g7,aO)=>some (t2,s2,g7,bz++aO)
   | none=>none
  | none=>none
 | .ri l bR jY::tape,s,aD=>match vX m s l bR jY with
  | some (s1,n1,bz)=>match iG m tape s1 n1 with
   | some (t2,s2,g7,aO)=>some (t2,s2,g7,bz++aO)
   | none=>none
  | none=>none
 | .fK r::tape,s,aD=>match s.aH r with
  | some row=>iG m tape (s.setRow r (hT row)) aD
  | none=>none
 | .tw t sz::tape,s,aD=>match s.E t with
  | .cT=>iG m tape {E:=fun u=>if u=t then .aV aD 0 0 0 else s.E u,aH:=(s.setRow aD [⟨sz,[],.live⟩]).aH} (aD+1)
  | _=>none
 | .tY r j sz::tape,s,aD=>match s.aH r with
  | some [⟨mq,[c],bC⟩]=>match c[j]? with
   | some .cT=>iG m tape ((s.setRow aD [⟨sz,[],.live⟩]).setRow r [⟨mq,[c.set j (.aV aD 0 0 0)],bC⟩]) (aD+1)
   | _=>none
  | _=>none
 | .GJ::tape,s,aD=>iG m tape (s.setRow aD []) (aD+1)
 | tape,s,aD=>some (tape,s,aD,[])
def i6 (P:Program) (N m:Nat):Code→List bx→S→Nat→Option Hd
 | .skip,tape,s,aD=>some ⟨.normal,s,aD,tape,[]⟩
 | .label _,tape,s,aD=>some ⟨.normal,s,aD,tape,[]⟩
 | .exit id,tape,s,aD=>some ⟨.exit id,s,aD,tape,[]⟩
 | .ret,tape,s,aD=>some ⟨.ret,s,aD,tape,[]⟩
 | .seq x y,tape,s,aD=>match i6 P N m x tape s aD with
  | some ⟨.normal,s1,n1,t1,bz⟩=>match i6 P N m y t1 s1 n1 with
   | some ⟨az,s2,g7,t2,aO⟩=>some ⟨az,s2,g7,t2,bz++aO⟩
   | none=>none
  | some r=>some r
  | none=>none
 | .block id c,tape,s,aD=>match i6 P N m c tape s aD with
  | some ⟨.exit o9,s1,n1,t1,bz⟩=>some ⟨if o9=id then .normal else .exit o9,s1,n1,t1,bz⟩
  | r=>r
 | .scope c,tape,s,aD=>i6 P N m c tape s aD
 | .region _ ops draw,tape,s,aD=>match iG m tape s aD with
  | some (.J bX::t1,s1,n1,bz)=>match sL P N ops draw bX s1 n1 with
   | some (s2,aO)=>some ⟨.normal,s2,n1+ops.size,t1,bz++aO⟩
   | none=>none
  | _=>none
 | .cond x c d,tape,s,aD=>match iG m tape s aD with
  | some (.sub e env rows::t1,s1,_,bz)=>some ⟨e.x,c6 env rows,rows.length,t1,bz++[gb P N m (.cond x c d) e.x s1 (c6 env rows)]⟩
  | some (.af b::t1,s1,n1,bz)=>match dm s1.E x with
   | .b v=>match b with
    | true=>match i6 P N m c t1 s1 n1 with
     | some ⟨az,s2,g7,t2,aO⟩=>some ⟨az,s2,g7,t2,bz++(v=true)::aO⟩
     | none=>none
    | false=>match i6 P N m d t1 s1 n1 with
     | some ⟨az,s2,g7,t2,aO⟩=>some ⟨az,s2,g7,t2,bz++(v=false)::aO⟩
     | none=>none
   | _=>none
  | _=>none
 | .loop c,tape,s,aD=>match iG m tape s aD with
  | some (.sub e env rows::t1,s1,_,bz)=>some ⟨e.x,c6 env rows,rows.length,t1,bz++[gb P N m (.loop c) e.x s1 (c6 env rows)]⟩
  | _=>none
 | _,_,_,_=>none
section
variable {P:Program} {N m:Nat}
theorem gb.intro {c:Code} {e:Exit} {s bh:S} (h : ∀(g:G) ar a w,g.N=N→g.m=m→b0 g s ar a w→c.wp P (fun d4 cE bo=>d4=e∧ ∃bc,b0 g bh bc cE bo) a w):gb P N m c e s bh:=h
theorem gb.seq {x y:Code} {e:Exit} {s s1 s2:S} (h1:gb P N m x .normal s s1) (R:gb P N m y e s1 s2):gb P N m (.seq x y) e s s2:=by
 intro g ar a w gO hm ao
 refine wp_seq (wp_mono (h1 g ar a w gO hm ao) fun d4 cE bo aU=> ?_)
 obtain ⟨rfl,bc,eZ⟩:=aU
 exact R g bc cE bo gO hm eZ
theorem gb.M3 {x y:Code} {e:Exit} {s s1:S} (h1:gb P N m x e s s1) (he:e≠ .normal):gb P N m (.seq x y) e s s1:=by
 intro g ar a w gO hm ao
 refine wp_seq (wp_mono (h1 g ar a w gO hm ao) fun d4 cE bo aU=> ?_)
 obtain ⟨rfl,eZ⟩:=aU
 cases d4<;>first|exact absurd rfl he|exact ⟨rfl,eZ⟩
theorem gb.Lu {c:Code} {id o9:Nat} {s s1:S} (h1:gb P N m c (.exit o9) s s1):gb P N m (.block id c) (if o9=id then .normal else .exit o9) s s1:=by
 intro g ar a w gO hm ao
 refine wp_block (wp_mono (h1 g ar a w gO hm ao) fun d4 cE bo aU=> ?_)
 obtain ⟨rfl,eZ⟩:=aU
 simp only [Exit.inBlock]
 split
 ·exact ⟨rfl,eZ⟩
 ·exact ⟨rfl,eZ⟩
theorem gb.block {c:Code} {id:Nat} {e:Exit} {s s1:S} (h1:gb P N m c e s s1) (he : ∀i,e≠ .exit i):gb P N m (.block id c) e s s1:=by
 intro g ar a w gO hm ao
 refine wp_block (wp_mono (h1 g ar a w gO hm ao) fun d4 cE bo aU=> ?_)
 obtain ⟨rfl,eZ⟩:=aU
 cases d4<;>first|exact absurd rfl (he _)|exact ⟨rfl,eZ⟩
theorem gb.scope {c:Code} {e:Exit} {s s1:S} (h1:gb P N m c e s s1) (he : ∀l,e≠ .goto l):gb P N m (.scope c) e s s1:=by
 intro g ar a w gO hm ao
 refine wp_scope_straight (wp_mono (h1 g ar a w gO hm ao) fun d4 cE bo aU=> ?_)
 obtain ⟨rfl,eZ⟩:=aU
 cases d4<;>first|exact absurd rfl (he _)|exact ⟨rfl,eZ⟩
theorem D3 {ops:Array Oper} : ∀(l:List Oper) (bX:List (ea×Bool)) (s bh:S) (aD:Nat) (ap:List Prop),
 lh P N ops l bX s aD=some (bh,ap)→s.hh aD→bh.hh (aD+l.length)
 | [],[],s,bh,aD,ap,h,bB=>by
  simp [lh] at h;obtain ⟨rfl,rfl⟩:=h;simpa using bB
 | I::l,dZ::bX,s,bh,aD,ap,h,bB=>by
  simp only [lh] at h
  split at h
  ·rename_i a7 aq
   split at h
   ·rename_i s2 tX R
    simp only [Option.some.injEq,Prod.mk.injEq] at h
    obtain ⟨rfl,rfl⟩:=h
    have:=D3 l bX (s.aC I a7) s2 (aD+1) tX R (vt aq bB)
    rw [List.length_cons]
    rw [show aD+(l.length+1)=aD+1+l.length by omega];exact this
   ·simp at h
  ·simp at h
 | [],_::_,_,_,_,_,h,_=>by simp [lh] at h
 | _::_,[],_,_,_,_,h,_=>by simp [lh] at h
theorem D4 {ops:Array Oper} : ∀(l:List Oper) (bX:List (ea×Bool)) (s bh:S) (aD:Nat) (gg:List Rec),
 li P N ops l bX s aD=some (bh,gg)→s.hh aD→bh.hh (aD+l.length)
 | [],[],s,bh,aD,ap,h,bB=>by
  simp [li] at h;obtain ⟨rfl,rfl⟩:=h;simpa using bB
 | I::l,dZ::bX,s,bh,aD,ap,h,bB=>by
  simp only [li] at h
  split at h
  ·rename_i a7 aq
   split at h
   ·rename_i s2 tX R
    simp only [Option.some.injEq,Prod.mk.injEq] at h
    obtain ⟨rfl,rfl⟩:=h
    have:=D4 l bX (s.aC I a7) s2 (aD+1) tX R (vt (Ao aq) bB)
    rw [List.length_cons]
    rw [show aD+(l.length+1)=aD+1+l.length by omega];exact this
   ·simp at h
  ·simp at h
 | [],_::_,_,_,_,_,h,_=>by simp [li] at h
 | _::_,[],_,_,_,_,h,_=>by simp [li] at h
theorem Kg {ops:Array Oper} {draw:Bool} {bX:List (ea×Bool)} {s bh:S} {aD:Nat} {ap:List Prop}
 (h:sL P N ops draw bX s aD=some (bh,ap)) (bB:s.hh aD):bh.hh (aD+ops.size):=by
 unfold sL at h
 split at h
 ·split at h
  ·rename_i s2 eM tv
   split at h
   ·simp only [Option.some.injEq,Prod.mk.injEq] at h
    obtain ⟨rfl,rfl⟩:=h
    simpa using D4 _ _ _ _ _ _ tv bB
   ·simp at h
  ·simp at h
 ·simpa using D3 _ _ _ _ _ _ h bB
theorem Lb {s:S} {n r:Nat} {row:List ae} (h:s.hh n) (ao:r<n):(s.setRow r row).hh n:=by
 intro q aU
 have:q≠r:=by omega
 simp [S.setRow,this,h q aU]
theorem qf : ∀(tape:List bx) (s:S) (aD:Nat) (g6:List bx) (bh:S) (jC:Nat) (ap:List Prop),iG m tape s aD=some (g6,bh,jC,ap)→(∀p∈ap,p)→s.hh aD →
 bh.hh jC∧ ∀(g:G) ar a w,g.m=m→b0 g s ar a w→ ∃bc,b0 g bh bc a w:=by
 intro tape
 induction tape with
 | nil =>
  intro s aD g6 bh jC ap h aX bB
  simp [iG] at h;obtain ⟨rfl,rfl,rfl,rfl⟩:=h
  exact ⟨bB,fun g ar a w _ ao=>⟨ar,ao⟩⟩
 | cons x tape ih =>
  intro s aD g6 bh jC ap h aX bB
  cases x with
  | a0 aA bR jY =>
   simp only [iG] at h
   split at h
   ·rename_i s1 n1 bz h1
    split at h
    ·rename_i t2 s2 g7 aO R
     simp only [Option.some.injEq,Prod.mk.injEq] at h
     obtain ⟨rfl,rfl,rfl,rfl⟩:=h
     have th:s1.hh n1:=by
      unfold we at h1
      split at h1
      ·split at h1
       ·simp only [Option.some.injEq,Prod.mk.injEq] at h1
        obtain ⟨rfl,rfl,rfl⟩:=h1
        exact oE _ _
       ·simp at h1
      ·simp at h1
     obtain ⟨e1,az⟩:=ih s1 n1 t2 s2 g7 aO R (fun p ak=>aX p (by simp [ak])) th
     refine ⟨e1,fun g ar a w hm ao=> ?_⟩
     obtain ⟨-,f2⟩:=MG ao (by rw [hm];exact h1) (fun p ak=>aX p (by simp [ak]))
     exact az g _ a w hm f2
    ·simp at h
   ·simp at h
  | ri l bR jY =>
   simp only [iG] at h
   split at h
   ·rename_i s1 n1 bz h1
    split at h
    ·rename_i t2 s2 g7 aO R
     simp only [Option.some.injEq,Prod.mk.injEq] at h
     obtain ⟨rfl,rfl,rfl,rfl⟩:=h
     have th:s1.hh n1:=by
      unfold vX at h1
      split at h1
      ·split at h1
       ·simp only [Option.some.injEq,Prod.mk.injEq] at h1
        obtain ⟨rfl,rfl,rfl⟩:=h1
        exact oE _ _
       ·simp at h1
      ·simp at h1
     obtain ⟨e1,az⟩:=ih s1 n1 t2 s2 g7 aO R (fun p ak=>aX p (by simp [ak])) th
     refine ⟨e1,fun g ar a w hm ao=> ?_⟩
     obtain ⟨-,f2⟩:=L3 ao (by rw [hm];exact h1) (fun p ak=>aX p (by simp [ak]))
     exact az g _ a w hm f2
    ·simp at h
   ·simp at h
  | fK r =>
   simp only [iG] at h
   split at h
   ·rename_i row cF
    have cG:r<aD:=by
     rcases Nat.lt_or_ge r aD with b9|b9
     ·exact b9
     ·rw [bB r b9] at cF;simp at cF
    obtain ⟨e1,az⟩:=ih _ aD g6 bh jC ap h aX (Lb bB cG)
    exact ⟨e1,fun g ar a w hm ao=>az g ar a w hm (ao.freeze cF)⟩
   ·simp at h
  | tw t sz =>
   simp only [iG] at h
   split at h
   ·rename_i bK
    obtain ⟨e1,az⟩:=ih _ (aD+1) g6 bh jC ap h aX (by
     intro q aU
     have:q≠aD:=by omega
     simp [S.setRow,this,bB q (by omega)])
    refine ⟨e1,fun g ar a w hm ao=> ?_⟩
    obtain ⟨bc,eZ⟩:=ao.tw (sz:=sz) (bB aD (Nat.le_refl _)) bK
    exact az g bc a w hm eZ
   ·simp at h
  | tY r j sz =>
   simp only [iG] at h
   split at h
   ·rename_i mq c bC cF
    split at h
    ·rename_i aL
     have cG:r<aD:=by
      rcases Nat.lt_or_ge r aD with b9|b9
      ·exact b9
      ·rw [bB r b9] at cF;simp at cF
     obtain ⟨e1,az⟩:=ih _ (aD+1) g6 bh jC ap h aX (by
      intro q aU
      have h1:q≠aD:=by omega
      have R:q≠r:=by omega
      simp [S.setRow,h1,R,bB q (by omega)])
     refine ⟨e1,fun g ar a w hm ao=> ?_⟩
     obtain ⟨bc,eZ⟩:=ao.NN (sz:=sz) (bB aD (Nat.le_refl _)) cF aL
     exact az g bc a w hm eZ
    ·simp at h
   ·simp at h
  | GJ =>
   simp only [iG] at h
   obtain ⟨e1,az⟩:=ih _ (aD+1) g6 bh jC ap h aX (by
    intro q aU
    have:q≠aD:=by omega
    simp [S.setRow,this,bB q (by omega)])
   refine ⟨e1,fun g ar a w hm ao=> ?_⟩
   obtain ⟨bc,-,eZ⟩:=ao.more (row:=[]) (bB aD (Nat.le_refl _)) (by simp)
   exact az g bc a w hm eZ
  | J bX=>simp [iG] at h;obtain ⟨rfl,rfl,rfl,rfl⟩:=h;exact ⟨bB,fun g ar a w _ ao=>⟨ar,ao⟩⟩
  | af b=>simp [iG] at h;obtain ⟨rfl,rfl,rfl,rfl⟩:=h;exact ⟨bB,fun g ar a w _ ao=>⟨ar,ao⟩⟩
  | sub e env rows=>simp [iG] at h;obtain ⟨rfl,rfl,rfl,rfl⟩:=h;exact ⟨bB,fun g ar a w _ ao=>⟨ar,ao⟩⟩
theorem vN {c:Code} {e:Exit} {s bh:S} (h : ∀ {Q:Exit→Act→World→Prop} {a w},Q e a w→c.wp P Q a w) (cB:bh=s):gb P N m c e s bh:=by
 intro g ar a w _ _ ao
 exact h ⟨rfl,ar,by rw [cB];exact ao⟩
theorem Lv (kW:P.follows .mixedOrders=true) : ∀(c:Code) (tape:List bx) (s:S) (aD:Nat) (r:Hd),i6 P N m c tape s aD=some r→(∀p∈r.dR,p)→s.hh aD →
 (r.s.hh r.aD∧(∀l,r.e≠ .goto l))∧gb P N m c r.e s r.s:=by
 intro c
 induction c with
 | skip =>
  intro tape s aD r h aX bB
  simp [i6] at h;subst h
  exact ⟨⟨bB,by simp⟩,vN wp_skip rfl⟩
 | label l =>
  intro tape s aD r h aX bB
  simp [i6] at h;subst h
  exact ⟨⟨bB,by simp⟩,vN wp_label rfl⟩
 | exit id =>
  intro tape s aD r h aX bB
  simp [i6] at h;subst h
  exact ⟨⟨bB,by simp⟩,vN wp_exit rfl⟩
 | ret =>
  intro tape s aD r h aX bB
  simp [i6] at h;subst h
  exact ⟨⟨bB,by simp⟩,vN wp_ret rfl⟩
 | seq x y GK OV =>
  intro tape s aD r h aX bB
  simp only [i6] at h
  split at h
  ·rename_i s1 n1 t1 bz h1
   split at h
   ·rename_i az s2 g7 t2 aO R
    simp only [Option.some.injEq] at h;subst h
    obtain ⟨⟨f1,-⟩,v1⟩:=GK _ _ _ _ h1 (fun p ak=>aX p (by simp [ak])) bB
    obtain ⟨f2,v2⟩:=OV _ _ _ _ R (fun p ak=>aX p (by simp [ak])) f1
    exact ⟨f2,v1.seq v2⟩
   ·simp at h
  ·rename_i r1 dN h1
   simp only [Option.some.injEq] at h;subst h
   obtain ⟨f1,v1⟩:=GK _ _ _ _ h1 aX bB
   refine ⟨f1,v1.M3 fun he=> ?_⟩
   obtain ⟨e1,s1,n1,t1,bz⟩:=r1
   simp only at he;subst he
   exact dN s1 n1 t1 bz rfl
  ·simp at h
 | block id c ih =>
  intro tape s aD r h aX bB
  simp only [i6] at h
  split at h
  ·rename_i o9 s1 n1 t1 bz h1
   simp only [Option.some.injEq] at h;subst h
   obtain ⟨⟨f1,f2⟩,v1⟩:=ih _ _ _ _ h1 aX bB
   exact ⟨⟨f1,by intro l;simp only;split<;>simp⟩,v1.Lu⟩
  ·rename_i dN
   obtain ⟨f1,v1⟩:=ih _ _ _ _ h aX bB
   refine ⟨f1,v1.block fun i he=> ?_⟩
   obtain ⟨e1,s1,n1,t1,bz⟩:=r
   simp only at he;subst he
   exact dN i s1 n1 t1 bz h
 | scope c ih =>
  intro tape s aD r h aX bB
  simp only [i6] at h
  obtain ⟨f1,v1⟩:=ih _ _ _ _ h aX bB
  exact ⟨f1,v1.scope f1.2⟩
 | region id ops draw =>
  intro tape s aD r h aX bB
  simp only [i6] at h
  split at h
  ·rename_i bX t1 s1 n1 bz h1
   split at h
   ·rename_i s2 aO R
    simp only [Option.some.injEq] at h;subst h
    obtain ⟨f1,v1⟩:=qf _ _ _ _ _ _ _ h1 (fun p ak=>aX p (by simp [ak])) bB
    refine ⟨⟨Kg R f1,by simp⟩,?_⟩
    intro g ar a w gO hm ao
    obtain ⟨hy,fF⟩:=v1 g ar a w hm ao
    subst gO
    exact JV kW R (fun p ak=>aX p (by simp [ak])) f1 fF id fun bc cE bo b9=>⟨rfl,bc,b9⟩
   ·simp at h
  ·simp at h
 | cond x c d OW OX =>
  intro tape s aD r h aX bB
  simp only [i6] at h
  split at h
  ·rename_i e env rows t1 s1 n1 bz h1
   simp only [Option.some.injEq] at h;subst h
   obtain ⟨f1,v1⟩:=qf _ _ _ _ _ _ _ h1 (fun p ak=>aX p (by simp [ak])) bB
   have aS:gb P N m (.cond x c d) e.x s1 (c6 env rows):=aX _ (by simp)
   refine ⟨⟨oE _ _,by intro l;cases e<;>simp [pn.x]⟩,fun g ar a w gO hm ao=> ?_⟩
   obtain ⟨hy,fF⟩:=v1 g ar a w hm ao
   exact aS g hy a w gO hm fF
  ·rename_i b t1 s1 n1 bz h1
   split at h
   ·rename_i v aS
    have a3 : ∀(g:G) ar a w,b0 g s1 ar a w→a.eval x = .bool v:=by
     intro g ar a w ao
     have:=ao.eval x
     rw [aS] at this
     exact this.nq
    split at h
    ·split at h
     ·rename_i az s2 g7 t2 aO R
      simp only [Option.some.injEq] at h;subst h
      obtain ⟨f1,v1⟩:=qf _ _ _ _ _ _ _ h1 (fun p ak=>aX p (by simp [ak])) bB
      obtain ⟨f2,v2⟩:=OW _ _ _ _ R (fun p ak=>aX p (by simp [ak])) f1
      have BT:v=true:=aX _ (by simp)
      refine ⟨f2,fun g ar a w gO hm ao=> ?_⟩
      obtain ⟨hy,fF⟩:=v1 g ar a w hm ao
      exact wp_cond_true (by rw [a3 g hy a w fF,BT]) (v2 g hy a w gO hm fF)
     ·simp at h
    ·split at h
     ·rename_i az s2 g7 t2 aO R
      simp only [Option.some.injEq] at h;subst h
      obtain ⟨f1,v1⟩:=qf _ _ _ _ _ _ _ h1 (fun p ak=>aX p (by simp [ak])) bB
      obtain ⟨f2,v2⟩:=OX _ _ _ _ R (fun p ak=>aX p (by simp [ak])) f1
      have BT:v=false:=aX _ (by simp)
      refine ⟨f2,fun g ar a w gO hm ao=> ?_⟩
      obtain ⟨hy,fF⟩:=v1 g ar a w hm ao
      exact wp_cond_false (by rw [a3 g hy a w fF,BT]) (v2 g hy a w gO hm fF)
     ·simp at h
   ·simp at h
  ·simp at h
 | loop c ih =>
  intro tape s aD r h aX bB
  simp only [i6] at h
  split at h
  ·rename_i e env rows t1 s1 n1 bz h1
   simp only [Option.some.injEq] at h;subst h
   obtain ⟨f1,v1⟩:=qf _ _ _ _ _ _ _ h1 (fun p ak=>aX p (by simp [ak])) bB
   have aS:gb P N m (.loop c) e.x s1 (c6 env rows):=aX _ (by simp)
   refine ⟨⟨oE _ _,by intro l;cases e<;>simp [pn.x]⟩,fun g ar a w gO hm ao=> ?_⟩
   obtain ⟨hy,fF⟩:=v1 g ar a w hm ao
   exact aS g hy a w gO hm fF
  ·simp at h
 | _=>intro tape s aD r h;simp [i6] at h
def lI (P:Program) (N m:Nat) (c:Code) (e:Exit) (s bh:S):Prop :=
 ∃n,∀(g:G) ar a w,g.N=N→g.m=m→b0 g s ar a w→Code.rounds P c (fun d4 cE bo=>d4=e∧ ∃bc,b0 g bh bc cE bo) n a w
theorem lI.OY {c:Code} {e:Exit} {s bh:S} (h:lI P N m c e s bh):gb P N m (.loop c) e s bh:=by
 obtain ⟨n,h⟩:=h
 intro g ar a w gO hm ao
 exact wp_loop_rounds n (h g ar a w gO hm ao)
theorem lI.out {c:Code} {e:Exit} {s bh:S} (h:gb P N m c e s bh) (he:e≠ .normal):lI P N m c e s bh:=by
 refine ⟨1,fun g ar a w gO hm ao=> ?_⟩
 rw [rounds_succ]
 refine wp_mono (h g ar a w gO hm ao) fun d4 cE bo aU=> ?_
 obtain ⟨rfl,eZ⟩:=aU
 cases d4<;>first|exact absurd rfl he|exact ⟨rfl,eZ⟩
theorem lI.next {c:Code} {e:Exit} {s s1 bh:S} (h:gb P N m c .normal s s1) (R:lI P N m c e s1 bh):lI P N m c e s bh:=by
 obtain ⟨n,R⟩:=R
 refine ⟨n+1,fun g ar a w gO hm ao=> ?_⟩
 rw [rounds_succ]
 refine wp_mono (h g ar a w gO hm ao) fun d4 cE bo aU=> ?_
 obtain ⟨rfl,bc,eZ⟩:=aU
 exact R g bc cE bo gO hm eZ
inductive b2:List Prop→Prop
 | nil:b2 []
 | cons {p:Prop} {l:List Prop} (h:p) (t:b2 l):b2 (p::l)
theorem b2.c {p:Prop} {l:List Prop} (h:p) (t:b2 l):b2 (p::l):= .cons h t
theorem b2.aC {l m:List Prop} (h:b2 l) (k:b2 m):b2 (l++m):=by
 induction h with
 | nil=>exact k
 | cons h _ ih=>exact .cons h ih
theorem b2.all {l:List Prop} (h:b2 l) : ∀p∈l,p:=by
 induction h with
 | nil=>intro p ak;simp at ak
 | cons h t ih =>
  intro q aU
  rw [List.mem_cons] at aU
  rcases aU with rfl|aU
  ·exact h
  ·exact ih q aU
theorem b2.of : ∀ {l:List Prop},(∀p∈l,p)→b2 l
 | [],_=> .nil
 | _::_,h=> .cons (h _ (by simp)) (.of fun p ak=>h p (by simp [ak]))
def wY (P:Program) (N m:Nat) (c:Code) (tape:List bx) (s:S) (aD:Nat):Option (Exit×S×List Prop) :=
 match i6 P N m c tape s aD with
 | some ⟨e,s1,n1,t1,bz⟩=>match iG m t1 s1 n1 with
  | some ([],s2,_,aO)=>some (e,s2,bz++aO)
  | _=>none
 | none=>none
theorem EI (kW:P.follows .mixedOrders=true) {c:Code} {tape:List bx} {s bh:S} {aD:Nat} {e:Exit} {ap:List Prop} (h:wY P N m c tape s aD=some (e,bh,ap)) (aX:b2 ap) (bB:s.hh aD) :
 gb P N m c e s bh:=by
 have aX:=aX.all
 unfold wY at h
 split at h
 ·rename_i e1 s1 n1 t1 bz h1
  split at h
  ·rename_i s2 g7 aO R
   simp only [Option.some.injEq,Prod.mk.injEq] at h
   obtain ⟨rfl,rfl,rfl⟩:=h
   obtain ⟨⟨f1,-⟩,v1⟩:=Lv kW c tape s aD _ h1 (fun p ak=>aX p (by simp [ak])) bB
   obtain ⟨-,v2⟩:=qf _ _ _ _ _ _ _ R (fun p ak=>aX p (by simp [ak])) f1
   intro g ar a w gO hm ao
   refine wp_mono (v1 g ar a w gO hm ao) fun d4 cE bo aU=> ?_
   obtain ⟨rfl,bc,eZ⟩:=aU
   exact ⟨rfl,v2 g bc cE bo hm eZ⟩
  ·simp at h
 ·simp at h
end
end Go.VL
namespace Go.VL
set_option linter.unusedVariables false
set_option linter.unusedSimpArgs false
open Go
def mD (P:Program) (s:S):ResultVar→Option av
 | .tmp t=>some (s.E t)
 | .cell t dH=>match s.E t with
  | .ref r k i off=>match b5 (s.aH r) k with
   | some I=>match I.es[i]? with
    | some c=>mE P dH c off
    | none=>none
   | none=>none
  | _=>none
def Bk (P:Program) (s:S):List ResultVar→Option av
 | []=>some (.cy [])
 | [x]=>mD P s x
 | [x,y]=>match mD P s x,mD P s y with
  | some a,some b=>some (.cy [a,b])
  | _,_=>none
 | [x,y,z]=>match mD P s x,mD P s y,mD P s z with
  | some a,some b,some c=>some (.cy [a,b,c])
  | _,_,_=>none
 | _=>none
def AX (tmps:Array Value):ResultVar→Sem Value
 | .tmp t=>pure (tmps.getD t undef)
 | .cell a t=>do loadVar t (← asAddr (tmps.getD a undef))
theorem Lc (fn:Func) (tmps:Array Value):results fn tmps=(do
 let vs ← fn.results.mapM (AX tmps)
 pure (if h:vs.size=1 then vs[0] else .tuple vs)):=rfl
def oK (args:List av) (T:List (List ae)):S:={E:=fun t=>(args[t]?).getD (.cy []),aH:=fun r=>T[r]?}
def FV:Exit→Bool
 | .normal=>true
 | .ret=>true
 | _=>false
def tx (P:Program) (f:FuncId) (args:List av) (T:List (List ae)) (tape:List bx) (aA:List Nat) (bR:List fA) (dE:h5):Option (av×List (List ae)×List Prop) :=
 match P.funcs[f]? with
 | none=>none
 | some fn=>match fn.body with
  | none=>none
  | some c=>if fn.name == "runtime.NumGoroutine" then none else
   match wY P fn.ntmps T.length c tape (oK args T) T.length with
   | none=>none
   | some (e,s,bz)=>if FV e && decide aA.Nodup && tg aA T.length then
    match Bk P s fn.results.toList with
    | none=>none
    | some r0=>match mI s.aH (cZ aA) (jf aA) aA bR,jK s.aH (cZ aA) (jf aA) fQ dE r0 with
     | some (gf,aO),some (r,eJ)=>some (r,gf,bz++aO++eJ)
     | _,_=>none
    else none
section
variable {P:Program}
theorem qg {g:G} {s:S} {ar:dB} {a:Act} {w:World} (h:b0 g s ar a w) {x:ResultVar} {r0:av} (ao:mD P s x=some r0) :
 ∃v,(AX a.tmps x).run P w = .ok v w∧Rel w (s.ok g ar w) s.aI (s.aR ar) r0 v:=by
 cases x with
 | tmp t =>
  simp only [mD,Option.some.injEq] at ao;subst ao
  exact ⟨_,rfl,h.env t⟩
 | cell t dH =>
  simp only [mD] at ao
  have ad:=h.env t
  split at ao
  ·rename_i r k i off eD
   rw [eD] at ad
   split at ao
   ·rename_i I ag
    split at ao
    ·rename_i c a3
     have cz:s.ap r k=some I:=ag
     have dX:=h.obj r k I cz
     rcases ad.qF (gz cz) with h0|⟨b,m,ak,hval⟩
     ·rw [h0] at dX
      simp only [gk] at dX
      rw [dX] at a3;simp at a3
     ·rw [ak] at dX
      obtain ⟨u,h1,R⟩:=Al (P:=P) dX.rd a3 ao
      refine ⟨u,?_,R⟩
      rw [Nat.zero_add] at h1
      simp only [AX,hval,asAddr]
      simpa [Instr.loadAt,Instr.sureAddr] using h1
    ·simp at ao
   ·simp at ao
  ·simp at ao
theorem Lw {g:G} {s:S} {ar:dB} {a:Act} {w:World} (h:b0 g s ar a w) {fn:Func} {r0:av} (ao:Bk P s fn.results.toList=some r0) :
 ∃v,(results fn a.tmps).run P w = .ok v w∧Rel w (s.ok g ar w) s.aI (s.aR ar) r0 v:=by
 have wD : ∀l,fn.results.toList=l→fn.results=l.toArray:=fun l aK=>by rw [← aK]
 unfold Bk at ao
 rw [Lc]
 split at ao
 ·rename_i aK
  simp only [Option.some.injEq] at ao;subst ao
  rw [wD _ aK]
  exact ⟨.tuple #[],by simp,.cy [] rfl (by simp)⟩
 ·rename_i x aK
  rw [wD _ aK]
  obtain ⟨v,h1,R⟩:=qg h ao
  exact ⟨v,by simp [h1,Sem.run_bind,Result.andThen],R⟩
 ·rename_i x y aK
  rw [wD _ aK]
  split at ao
  ·rename_i p q ak aU
   simp only [Option.some.injEq] at ao;subst ao
   obtain ⟨v1,h1,R⟩:=qg h ak
   obtain ⟨v2,ai,ax⟩:=qg h aU
   refine ⟨.tuple #[v1,v2],by simp [h1,ai,Sem.run_bind,Result.andThen],.cy [v1,v2] rfl ?_⟩
   intro j x v ad aS
   match j,ad,aS with
   | 0,ad,aS=>obtain rfl:=Option.some.inj ad;obtain rfl:=Option.some.inj aS;exact R
   | 1,ad,aS=>obtain rfl:=Option.some.inj ad;obtain rfl:=Option.some.inj aS;exact ax
   | j+2,ad,aS=>simp at ad
  ·simp at ao
 ·rename_i x y z aK
  rw [wD _ aK]
  split at ao
  ·rename_i p q t ak aU bK
   simp only [Option.some.injEq] at ao;subst ao
   obtain ⟨v1,h1,R⟩:=qg h ak
   obtain ⟨v2,ai,ax⟩:=qg h aU
   obtain ⟨v3,aM,ba⟩:=qg h bK
   refine ⟨.tuple #[v1,v2,v3],by simp [h1,ai,aM,Sem.run_bind,Result.andThen],.cy [v1,v2,v3] rfl ?_⟩
   intro j x v ad aS
   match j,ad,aS with
   | 0,ad,aS=>obtain rfl:=Option.some.inj ad;obtain rfl:=Option.some.inj aS;exact R
   | 1,ad,aS=>obtain rfl:=Option.some.inj ad;obtain rfl:=Option.some.inj aS;exact ax
   | 2,ad,aS=>obtain rfl:=Option.some.inj ad;obtain rfl:=Option.some.inj aS;exact ba
   | j+3,ad,aS=>simp at ad
  ·simp at ao
 ·simp at ao
theorem finish {g:G} {s:S} {ar:dB} {a:Act} {w:World} (h:b0 g s ar a w) {aA:List Nat} {bR:List fA} {dE:h5} {r0 r:av} {gf:List (List ae)} {aO eJ:List Prop}
 (hnd:aA.Nodup) (lS:tg aA g.m=true) (h1:mI s.aH (cZ aA) (jf aA) aA bR=some (gf,aO)) (R:jK s.aH (cZ aA) (jf aA) fQ dE r0=some (r,eJ)) (kv : ∀p∈aO,p) (BM : ∀p∈eJ,p)
 {v:Value} (aS:Rel w (s.ok g ar w) s.aI (s.aR ar) r0 v) :
 ∃bc,fj g (c2 gf) bc w∧Rel w ((c2 gf).ok g bc w) (c2 gf).aI ((c2 gf).aR bc) r v:=by
 obtain ⟨e1,az⟩:=AB h.tofj (wg hnd) aA bR gf aO h1 kv
 have OZ:e6 s (jf aA) fQ iy r0 r:=sQ h.tofj (wg hnd) (nv _) R BM trivial aS
 have ca:k2 s (jf aA) fQ iy (c2 gf).aH:=FD hnd e1 az
 have tq:=EX h.tofj lS
 have jw : ∀b,(c2 gf).iq (gC ar (jf aA)) b→s.iq ar b:=fun b aK=>by
  obtain ⟨q,k,I,m,h1,R,ai,-⟩:=ca.live (bh:=c2 gf) b aK
  exact ⟨q,k,I,m,h1,R,ai⟩
 have tc : ∀j k,g.ks j k→(c2 gf).aI j k∧((c2 gf).aR (gC ar (jf aA)) j k=g.lP j k∨(c2 gf).aR (gC ar (jf aA)) j k=none):=by
  intro j k aL
  obtain ⟨e1,az⟩:=h.stay j k aL
  refine ⟨ca.aI j k j k (tq j k aL) e1,?_⟩
  rcases ca.wP (bh:=c2 gf) (ar:=ar) (tq j k aL) with e|e
  ·rw [e];exact az
  ·exact .inr e
 obtain ⟨f1,f2⟩:=h.tofj.Cg (bh:=c2 gf) ca h.fc tc h.low h.mlt h.jv (fun r k I b m _ ag ak=>h.own r k I b m ag ak)
  (fun b aW=>⟨aW.1,aW.2.1,fun aK=>aW.2.2 (jw b aK)⟩)
  (fun q k I b m ag _ ao ak=>by
    have aX:=h.obj q k I ag
    rw [ak] at aX
    obtain ⟨c,dH,e1,-⟩:=aX
    refine ⟨(Array.getElem?_eq_some_iff.1 e1).1,?_,fun aK=> ?_⟩
    ·rcases h.own q k I b m ag ak with e|e
     ·exact .inr (.inl e)
     ·exact .inr (.inr e)
    ·obtain ⟨cS,ck,bn,dp,f1,f2,f3,⟨Ch,uF,f4⟩⟩:=ca.live (bh:=c2 gf) b aK
     obtain ⟨rfl,rfl⟩:=h.inj q k I cS ck bn b m dp ag f1 ak f3
     exact ao Ch uF f4)
 exact ⟨_,f1,f2 OZ aS⟩
theorem E0 (kW:P.follows .mixedOrders=true) {f:FuncId} {args:List av} {T:List (List ae)} {tape:List bx} {aA:List Nat} {bR:List fA} {dE:h5} {r:av} {gf:List (List ae)} {ap:List Prop}
 (h:tx P f args T tape aA bR dE=some (r,gf,ap)) (aX:b2 ap):Con P f args T r gf:=by
 have aX:=aX.all
 unfold tx at h
 split at h
 ·simp at h
 ·rename_i fn GL
  split at h
  ·simp at h
  ·rename_i c a3
   split at h
   ·simp at h
   ·rename_i NO
    split at h
    ·simp at h
    ·rename_i e s bz hH
     split at h
     ·rename_i FW
      simp only [Bool.and_eq_true,decide_eq_true_eq] at FW
      obtain ⟨⟨qW,hnd⟩,lS⟩:=FW
      split at h
      ·simp at h
      ·rename_i r0 hY
       split at h
       ·rename_i jh aO bj eJ h1 R
        simp only [Option.some.injEq,Prod.mk.injEq] at h
        obtain ⟨rfl,rfl,rfl⟩:=h
        refine ⟨⟨fn,GL,by simpa using NO,by simp [a3]⟩,?_⟩
        intro g ar w vs hw hm o4 hX cR dC hargs
        have th:(oK args T).hh T.length:=by intro q aU;simp [oK,aU]
        have Q2:=cR
        let eu:G:={g with N:=fn.ntmps}
        have dX:b0 eu (oK args T) ar {tmps:=vs++Array.replicate (fn.ntmps-vs.size) undef,defers:=[]} w:=by
         have wZ:(oK args T).aH=(c2 T).aH:=rfl
         have ls:fj g (oK args T) ar w:=cR.congr wZ
         have O0:fj eu (oK args T) ar w:=⟨ls.obj,ls.inj,ls.own,⟨ls.fc.os,ls.fc.tape,ls.fc.output,ls.fc.size,ls.fc.block⟩,ls.mlt,ls.jv,ls.stay,ls.low⟩
         refine {tofj:=O0,env:=fun t=> ?_,defers:=rfl,gB:=by simp [eu];omega}
         have e1:(vs++Array.replicate (fn.ntmps-vs.size) undef).getD t undef=(vs[t]?).getD undef:=by
          rw [Array.getD_eq_getD_getElem?,Array.getElem?_append]
          split
          ·rfl
          ·rename_i cG
           rw [Array.getElem?_replicate]
           have:vs[t]? = none:=by simp;omega
           rw [this]
           split<;>rfl
         show Rel _ _ _ _ ((args[t]?).getD (.cy [])) _
         rw [e1]
         cases ad:args[t]? with
         | none =>
          have:vs[t]? = none:=by
           rw [List.getElem?_eq_none_iff] at ad
           simp;omega
          rw [this]
          exact EA
         | some x =>
          have cG:=dt ad
          have aS:vs[t]? = some vs[t]:=Array.getElem?_eq_getElem (by omega)
          rw [aS]
          have:=hargs t x _ ad aS
          rw [← sP wZ,← qz wZ,← qA wZ] at this
          exact this
        have aS:=EI kW hH (by
         exact b2.of fun p ak=>aX p (by simp [ak])) th eu ar _ w rfl hm dX
        refine calls_of_wp GL a3 (wp_mono aS fun d4 cE bo aU=> ?_)
        obtain ⟨rfl,bc,eZ⟩:=aU
        obtain ⟨v,v1,v2⟩:=Lw (P:=P) eZ hY
        obtain ⟨h6,f1,f2⟩:=finish eZ hnd (by rw [show eu.m=T.length from hm];exact lS) h1 R (fun p ak=>aX p (by simp [ak])) (fun p ak=>aX p (by simp [ak])) v2
        have Gg:cE.defers=[]∧ ∃v,(results fn cE.tmps).run P bo = .ok v bo∧ ∃GM bc,Ending.returned v=Ending.returned GM∧fj g (c2 jh) bc bo∧Rel bo ((c2 jh).ok g bc bo) (c2 jh).aI ((c2 jh).aR bc) bj GM:=by
         refine ⟨eZ.defers,v,v1,v,h6,rfl,?_,f2⟩
         exact ⟨f1.obj,f1.inj,f1.own,⟨f1.fc.os,f1.fc.tape,f1.fc.output,f1.fc.size,f1.fc.block⟩,f1.mlt,f1.jv,f1.stay,f1.low⟩
        cases d4<;>simp only [FV,Bool.false_eq_true] at qW
        ·exact Gg
        ·exact Gg
       ·simp at h
     ·simp at h
theorem L4 (kW:P.follows .mixedOrders=true) {f:FuncId} {args:List av} {tape:List bx} {dE:h5} {r:av} {ap:List Prop}
 (h:tx P f args [] tape [] [] dE=some (r,[],ap)) (aX:b2 ap):Con P f args [] r []:=E0 kW h aX
end
end Go.VL
namespace Go.VL
set_option linter.unusedVariables false
set_option linter.unusedSimpArgs false
open Go
def bm {α:Type} (I:Option α) (Q:α→Prop):Prop:= ∀r,I=some r→Q r
section
variable {α β:Type} {Q:α→Prop}
theorem bm.ite {b:Bool} {x y:Option α} (h1:b=true→bm x Q) (R:b=false→bm y Q):bm (if b=true then x else y) Q:=by
 cases b
 ·exact R rfl
 ·exact h1 rfl
theorem bm.aJ {I:Option β} {f:β→Option α} (h : ∀x,I=some x→bm (f x) Q):bm (I >>= f) Q:=by
 cases I with
 | none=>intro r ao;simp at ao
 | some x=>exact h x rfl
theorem bm.bu {p:Prop} [Decidable p] {x:Option α} (h:p→bm x Q):bm (if p then x else none) Q:=by
 by_cases ak:p
 ·rw [if_pos ak];exact h ak
 ·rw [if_neg ak];intro r ao;simp at ao
theorem bm.ret {r:α} (h:Q r):bm (some r) Q:=by
 intro x ad;obtain rfl:=Option.some.inj ad;exact h
end
theorem bm.pa {α:Type} {Q:α→Prop}:bm (none:Option α) Q:=by intro r ao;simp at ao
def nodeAt:Code→List Nat→Code
 | c,[]=>c
 | .seq x _,0::l=>nodeAt x l
 | .seq _ y,1::l=>nodeAt y l
 | .cond _ x _,0::l=>nodeAt x l
 | .cond _ _ y,1::l=>nodeAt y l
 | .block _ x,0::l=>nodeAt x l
 | .loop x,0::l=>nodeAt x l
 | .scope x,0::l=>nodeAt x l
 | _,_=> .skip
def AY (P:Program) (f:FuncId):Code :=
 match P.funcs[f]? with
 | some fn=>match fn.body with
  | some c=>c
  | none=> .skip
 | none=> .skip
theorem AJ {α β:Type} {f:α→β} {l:List α} {i:Nat} {x:α} (h:l[i]? = some x):(l.map f)[i]? = some (f x):=by
 rw [List.getElem?_map,h];rfl
theorem Fk {α β:Type} {f:α→β} {l:List α} {j:Int} (h:j<l.length):j<((l.map f).length:Nat):=by
 rw [List.length_map];exact h
theorem FF {α β:Type} {f:α→β} {l:List α} {j:Nat} (h:j<l.length):j<(l.map f).length:=by
 rw [List.length_map];exact h
end Go.VL
namespace Go.VL
set_option linter.unusedVariables false
set_option linter.unusedSimpArgs false
open Go
def iter {α β:Type} (f:α→Option (α⊕β)) (a:α):Option β:=do
 match ← f a with
 | .inl cE=>iter f cE
 | .inr r=>some r
partial_fixpoint
abbrev PP:ea×Bool:=(.none,true)
abbrev PQ:ea×Bool:=(.none,false)
abbrev ii:h5:= .bI (.cb .id)
abbrev ab (x:Int):Int:=IntKind.wrap .i64 x
section
variable {P:Program} {N m:Nat} {α β:Type}
theorem M4 {c:Code} {f:α→Option (α⊕β)} {head:α→S} {gN:β→Exit} {out:β→S} (hex : ∀r,gN r≠ .normal)
 (h : ∀a,bm (f a) (Sum.elim (fun cE=>gb P N m c .normal (head a) (head cE)) (fun r=>gb P N m c (gN r) (head a) (out r)))) : ∀a r,iter f a=some r→lI P N m c (gN r) (head a) (out r):=by
 apply iter.partial_correctness f (fun a r=>lI P N m c (gN r) (head a) (out r))
 intro it ih a r ao
 cases bB:f a with
 | none=>rw [bB] at ao;simp at ao
 | some x =>
  have ad:=h a x bB
  rw [bB] at ao
  cases x with
  | inl cE =>
   have eZ:it cE=some r:=ao
   exact lI.next ad (ih cE r eZ)
  | inr cS =>
   have eZ:some cS=some r:=ao
   obtain rfl:=Option.some.inj eZ
   exact lI.out ad (hex _)
theorem bE {a:Bool} (h:a=true):(!a)=false:=by rw [h];rfl
theorem bS {a:Bool} (h:a=false):(!a)=true:=by rw [h];rfl
theorem iE {bH:Type} {raw:List (List av)} {f:bH→List av} {l:List bH} (e:raw=l.map f) {i:Nat} {x:bH} (h:l[i]? = some x):raw[i]? = some (f x):=by
 rw [e];exact AJ h
theorem Qr {bH:Type} {raw:List (List av)} {f:bH→List av} {l:List bH} (e:raw=l.map f) {j:Int} (h:j<l.length):j<(raw.length:Nat):=by
 rw [e];exact Fk h
theorem Qy {bH:Type} {raw:List (List av)} {f:bH→List av} {l:List bH} (e:raw=l.map f) {j:Nat} (h:j<l.length):j<raw.length:=by
 rw [e];exact FF h
theorem im {bH:Type} {raw:List (List av)} {f:bH→List av} {l:List bH} (e:raw=l.map f) (i:Nat) (x:bH):raw.set i (f x)=(l.set i x).map f:=by
 rw [e,List.map_set]
theorem Qs {bH:Type} {raw:List (List av)} {f:bH→List av} {l:List bH} (e:raw=l.map f) (x:List bH):raw++x.map f=(l++x).map f:=by
 rw [e,List.map_append]
theorem lA {bH:Type} (f:bH→List av) (n:Nat) (x:bH):List.replicate n (f x)=(List.replicate n x).map f:=by
 rw [List.map_replicate]
theorem AK {bH:Type} {raw:List (List av)} {f:bH→List av} {l:List bH} (e:raw=l.map f) (i n:Nat):(raw.drop i).take n=((l.drop i).take n).map f:=by
 rw [e,List.map_take,List.map_drop]
theorem M5 {bH:Type} {raw:List (List av)} {f:bH→List av} {l:List bH} (e:raw=l.map f):raw.length=l.length:=by rw [e,List.length_map]
theorem mz {bH:Type} {raw:List (List av)} {f:bH→List av} {l:List bH} (e:raw=l.map f) (i n:Nat):((l.drop i).take n).map f=(raw.drop i).take n:=(AK e i n).symm
theorem lg {bH:Type} {raw:List (List av)} {f:bH→List av} {l:List bH} (e:raw=l.map f) {n:Nat} (h:n≤l.length):n≤raw.length:=by rw [M5 e];exact h
theorem cM {bH:Type} {f:bH→List av} (bB : ∀x,∀v∈f x,Pure v) (l:List bH):hS (l.map f):=by
 intro e he v aS
 rw [List.mem_map] at he
 obtain ⟨x,-,rfl⟩:=he
 exact bB x v aS
theorem M6 {bH:Type} {raw:List (List av)} {f:bH→List av} {l:List bH} {sz:Nat} {bC:dV} (e:raw=l.map f):[ae.mk sz raw bC]=[ae.mk sz (l.map f) bC]:=by rw [e]
theorem MI {bH:Type} {f:bH→List av} (bB : ∀x,∀v∈f x,Pure v) {sz:Nat} {bC:dV} (l:List bH):sV [ae.mk sz (l.map f) bC]:=by
 intro I ag
 rw [List.mem_singleton] at ag
 subst ag
 exact cM bB l
theorem AD {c:List av} (h : ∀v∈c,Pure v):hS [c]:=by
 intro e he
 rw [List.mem_singleton] at he
 subst he
 exact h
theorem Qm {bH:Type} {raw:List (List av)} {f:bH→List av} {l:List bH} (e:raw=l.map f):l.map f=(raw.drop 0).take l.length:=by
 rw [e,List.drop_zero,List.take_of_length_le (by simp)]
theorem Qt {bH:Type} {raw:List (List av)} {f:bH→List av} {l:List bH} (e:raw=l.map f):0+l.length≤raw.length:=by rw [e];simp
theorem f6 : ∀x∈([]:List av),a1 x:=by simp
theorem dz {x:av} {l:List av} (h:a1 x) (t : ∀y∈l,a1 y) : ∀y∈x::l,a1 y:=by
 intro y aP
 rw [List.mem_cons] at aP
 rcases aP with rfl|aP
 ·exact h
 ·exact t y aP
theorem kj {l:List av} (h : ∀y∈l,a1 y):a1 (.cy l):= .cy h
def len_ {bH:Type} (f:bH→List av) (l:List bH):Int:=((l.map f).length:Nat)
theorem dw {bH:Type} (f:bH→List av) (l:List bH):len_ f l=(l.length:Nat):=by simp [len_]
def U (x:Int):List av:=[.n .i64 x]
def w0 (x:Int):List av:=[.n .u8 x]
def po (x:Bool):List av:=[.b x]
def pp (x:ByteArray):List av:=[.s x]
theorem bG : ∀x,∀v∈U x,Pure v:=by intro x v aS;simp [U] at aS;subst aS;exact .n _ _
theorem Qn : ∀x,∀v∈w0 x,Pure v:=by intro x v aS;simp [w0] at aS;subst aS;exact .n _ _
theorem M7 : ∀x,∀v∈po x,Pure v:=by intro x v aS;simp [po] at aS;subst aS;exact .b _
theorem Fl : ∀x,∀v∈pp x,Pure v:=by intro x v aS;simp [pp] at aS;subst aS;exact .s _
def ry {bH:Type} (sz:Nat) (f:bH→List av) (l:List bH):List av:=[.isl sz (l.map f)]
theorem M8 {bH:Type} {sz:Nat} {f:bH→List av} (bB : ∀x,∀v∈f x,Pure v) : ∀l,∀v∈ry sz f l,Pure v:=by
 intro l v aS;simp [ry] at aS;subst aS;exact .isl (cM bB l)
def lx {bH:Type} (sz:Nat) (f:bH→List av) (x:Option bH):av:= .fT sz (x.map f)
def fZ {bH:Type} (sz:Nat) (f:bH→List av) (x:Option bH):List av:=[lx sz f x]
theorem M9 {bH:Type} {sz:Nat} {f:bH→List av} (bB : ∀x,∀v∈f x,Pure v) (x:Option bH):Pure (lx sz f x):=by
 cases x with
 | none=>exact .kD _
 | some x=>exact .kp (bB x)
theorem vO {bH:Type} {sz:Nat} {f:bH→List av} (bB : ∀x,∀v∈f x,Pure v) : ∀x,∀v∈fZ sz f x,Pure v:=by
 intro x v aS;simp [fZ] at aS;subst aS;exact M9 bB x
theorem Na {bH:Type} {sz:Nat} {f:bH→List av} {x:Option bH} (h:x=none):lx sz f x = .fT sz none:=by rw [h];rfl
theorem Nb {bH:Type} {sz:Nat} {f:bH→List av} {x:Option bH} {y:bH} (h:x=some y):lx sz f x = .fT sz (some (f y)):=by rw [h];rfl
theorem bm.w1 {α bH:Type} {Q:α→Prop} {I:Option bH} {x:Option α} {f:bH→Option α} (h1:I=none→bm x Q) (R : ∀y,I=some y→bm (f y) Q):bm (I.elim x f) Q:=by
 cases I with
 | none=>exact h1 rfl
 | some y=>exact R y rfl
theorem bm.sum {α β bH:Type} {Q:bH→Prop} {s:α⊕β} {f:α→Option bH} {g:β→Option bH} (h1 : ∀a,s = .inl a→bm (f a) Q) (R : ∀b,s = .inr b→bm (g b) Q) :
 bm (match s with | .inl a=>f a | .inr b=>g b) Q:=by
 cases s with
 | inl a=>exact h1 a rfl
 | inr b=>exact R b rfl
theorem gU {bH:Type} {n:Nat} {l:List bH} (h:n=l.length) (i:Nat) (x:bH):n=(l.set i x).length:=by rw [List.length_set];exact h
theorem lB {bH:Type} (n:Nat) (x:bH):n=(List.replicate n x).length:=by rw [List.length_replicate]
theorem ia {bH:Type} {raw:List (List av)} {f:bH→List av} {l:List bH} (e:raw=l.map f) {n:Nat} (h:n=l.length):(raw.drop 0).take n=l.map f:=by
 rw [e,h,List.drop_zero,List.take_of_length_le (by simp)]
theorem hP {bH:Type} {rx lZ:List (List av)} {f:bH→List av} {xs bA:List bH} (gN:rx=xs.map f) {n:Nat} (h:n=xs.length) (ho:lZ=bA.map f):rx.take n++lZ=(xs++bA).map f:=by
 rw [gN,ho,h,List.take_of_length_le (by simp),List.map_append]
theorem MJ {bH:Type} {rx lZ:List (List av)} {f:bH→List av} {xs bA:List bH} (gN:rx=xs.map f) (n:Nat) (ho:lZ=bA.map f):rx.take n++lZ=(xs.take n++bA).map f:=by
 rw [gN,ho,List.map_append,List.map_take]
theorem cY {bH:Type} {raw:List (List av)} {f:bH→List av} {l:List bH} (e:raw=l.map f) {n:Nat} (h:n=l.length):0+n≤raw.length:=by rw [e,h];simp
theorem jq {bH:Type} {raw:List (List av)} {f:bH→List av} {l:List bH} (e:raw=l.map f) {n:Nat} (h:n=l.length):n≤raw.length:=by rw [e,h];simp
theorem Qz {bH:Type} {raw:List (List av)} {f:bH→List av} {l:List bH} (e:raw=l.map f):l.length=raw.length:=by rw [e];simp
theorem jr {bH:Type} {lZ:List (List av)} {f:bH→List av} {xs bA:List bH} {n:Nat} (h:n=xs.length) (ho:lZ=bA.map f):(xs++bA).length=n+lZ.length:=by rw [ho,h];simp
theorem MK {bH:Type} {lZ:List (List av)} {f:bH→List av} {xs bA:List bH} {n:Nat} (h:n≤xs.length) (ho:lZ=bA.map f):(xs.take n++bA).length=n+lZ.length:=by rw [ho];simp;omega
theorem d7 {bH:Type} {raw:List (List av)} {f:bH→List av} {l:List bH} (e:raw=l.map f) {n:Nat} (h:n=l.length):l.map f=(raw.drop 0).take n:=(ia e h).symm
theorem L5 {bH:Type} {f:bH→List av} (bB : ∀x,∀v∈f x,Pure v) {sz:Nat} (l:List bH):nk [ae.mk sz (l.map f) .live]:=by
 intro I ag
 rw [List.mem_singleton] at ag
 subst ag
 exact ⟨cM bB l,rfl⟩
theorem P5:nk []:=by intro I ag;simp at ag
theorem e7 {bH:Type} {raw:List (List av)} {f:bH→List av} {l:List bH} (e:raw=l.map f) (i:Nat) {c:List av} (x:bH) (a3:c=f x):raw.set i c=(l.set i x).map f:=by
 rw [e,a3,List.map_set]
theorem Con.fx {P:Program} {f:FuncId} {sz:Nat} {T:List (List ae)} {r:av} {gf:List (List ae)} (h1:Con P f [.cT] T r gf) (R:Con P f [.fp] T r gf):Con P f [.isl sz []] T r gf:=by
 refine ⟨h1.1,?_⟩
 intro g ar w vs hw hm o4 hX cR dC hargs
 have h0:0<vs.size:=by rw [dC];simp
 have aS:=hargs 0 (.isl sz []) vs[0] rfl (Array.getElem?_eq_getElem h0)
 have key : ∀y:av,Rel w ((c2 T).ok g ar w) (c2 T).aI ((c2 T).aR ar) y vs[0]→ ∀(j:Nat) x v,[y][j]? = some x→vs[j]? = some v→Rel w ((c2 T).ok g ar w) (c2 T).aI ((c2 T).aR ar) x v:=by
  intro y aP j x v ad aS
  match j,ad,aS with
  | 0,ad,aS =>
   obtain rfl:=Option.some.inj ad
   rw [Array.getElem?_eq_getElem h0] at aS
   obtain rfl:=Option.some.inj aS
   exact aP
  | j+1,ad,aS=>simp at ad
 rcases aS.mA with ⟨-,a,c,he,bL⟩|⟨ct,off,c,-,he,-⟩
 ·cases a with
  | none =>
   have:=bL rfl
   subst this
   exact h1.2 g ar w vs hw hm o4 hX cR dC (key .cT (by rw [he];exact .cT))
  | some a=>exact R.2 g ar w vs hw hm o4 hX cR dC (key .fp (by rw [he];exact .fp a c))
 ·exact R.2 g ar w vs hw hm o4 hX cR dC (key .fp (by rw [he];exact .fp _ c))
end
end Go.VL
namespace Go.VL
set_option linter.unusedVariables false
set_option linter.unusedSimpArgs false
open Go Go.ChangeShapes Go.WideShapes Go.RowKit
def f5 (w:World) (c:List av) (cs:List Value):Prop :=
 cs.length=c.length∧ ∀(j:Nat) x v,c[j]? = some x→cs[j]? = some v→g9 v=true∧Rel w (fun b=>b<w.heap.size) (fun _ _=>False) (fun _ _=>none) x v
theorem f5.nil (w:World):f5 w [] []:=⟨rfl,fun j x v ad=>by simp at ad⟩
theorem f5.one {w:World} {x:av} {v:Value} (a3:g9 v=true) (h:Rel w (fun b=>b<w.heap.size) (fun _ _=>False) (fun _ _=>none) x v):f5 w [x] [v]:=by
 refine ⟨rfl,fun j y u aP hu=> ?_⟩
 match j,aP,hu with
 | 0,aP,hu=>obtain rfl:=Option.some.inj aP;obtain rfl:=Option.some.inj hu;exact ⟨a3,h⟩
 | j+1,aP,hu=>simp at aP
structure kl (P:Program) (w:World) (t:TypeId) {α:Type} (f:α→List av) (cQ:α→Prop):Prop where
 pure : ∀a,∀v∈f a,Pure v
 size : ∀a,(f a).length=P.cellsOf t
 opens : ∀ {H:Type} {enc:TypeId×Value→H} {base:Nat} {spare:Nat→Bool} {held:Bool} {kV:Nat} {cs:List Value} {x:DataW H×List MemPlace},
  DataW.trod enc P w base spare held kV t cs=some x→ ∃a,cQ a∧f5 w (f a) cs
section
variable {P:Program} {w:World} {t:TypeId}
def lO (x:Int):Prop:=(Lit.int .i64 x).wf=true
theorem ox (bK:P.underlying t=some (.int .i64)) (a3:P.cellsOf t=1):kl P w t U lO where
 pure:=bG
 size:=fun a=>a3.symm
 opens:=fun h=>by
  obtain ⟨n,rfl,-,hw⟩:=DataW.trod_int bK h
  exact ⟨n,hw,.one rfl (.n _ _)⟩
theorem Em (bK:P.underlying t=some .bool) (a3:P.cellsOf t=1):kl P w t po (fun _=>True) where
 pure:=M7
 size:=fun a=>a3.symm
 opens:=fun h=>by
  obtain ⟨n,rfl,-⟩:=DataW.trod_bool bK h
  exact ⟨n,trivial,.one rfl (.b _)⟩
theorem KT (bK:P.underlying t=some .string) (a3:P.cellsOf t=1):kl P w t pp (fun s=>s.size≤maxLen) where
 pure:=Fl
 size:=fun a=>a3.symm
 opens:=fun h=>by
  obtain ⟨n,rfl,-,hw⟩:=DataW.trod_string bK h
  exact ⟨n,hw,.one rfl (.s _)⟩
theorem Fm {α:Type} {Q:Nat→α→Prop} : ∀(n:Nat),(∀i,i<n→ ∃a,Q i a)→ ∃l:List α,l.length=n∧ ∀(i:Nat) a,l[i]? = some a→Q i a
 | 0,_=>⟨[],rfl,fun i a h=>by simp at h⟩
 | n+1,h=>by
  obtain ⟨l,h1,R⟩:=Fm n fun i a6=>h i (by omega)
  obtain ⟨a,bL⟩:=h n (by omega)
  refine ⟨l++[a],by simp [h1],fun i x ad=> ?_⟩
  rw [List.getElem?_append] at ad
  split at ad
  ·exact R i x ad
  ·have:i=l.length:=by have:=dt ad;simp at this;omega
   subst this
   simp at ad;subst ad;rw [h1];exact bL
theorem sn {e:TypeId} {α:Type} {f:α→List av} {cQ:α→Prop} {sz:Nat} (bK:P.underlying t=some (.slice e)) (a3:P.cellsOf t=1) (dC:P.cellsOf e=sz) (ln:0<sz) (he:kl P w e f cQ) :
 kl P w t (ry sz f) (fun l=>l.length≤maxLen∧ ∀x∈l,cQ x) where
 pure:=M8 he.pure
 size:=fun a=>a3.symm
 opens:=fun h=>by
  rcases DataW.trod_slice bK h with ⟨rfl,-⟩|⟨a,len,cap,elems,rest,n,_,rfl,rfl,aW,aK,hm,hlen,ij,Gu,BA⟩
  ·exact ⟨[],⟨by simp,by simp⟩,.one rfl (.fx _ _ _ (fun _=>rfl))⟩
  ·subst dC
   have each : ∀i,i<len→ ∃x,cQ x∧ ∀j,j<P.cellsOf e→ ∃y v,(f x)[j]? = some y∧w.cell? ((a.add (i*P.cellsOf e)).add j)=some v∧g9 v=true∧Rel w (fun b=>b<w.heap.size) (fun _ _=>False) (fun _ _=>none) y v:=by
    intro i a6
    have h1:=ij i a6
    rw [List.getElem?_eq_getElem (by omega),Option.bind_eq_some_iff] at h1
    obtain ⟨ja,R,ai⟩:=h1
    obtain ⟨x,ax,aM,ba⟩:=he.opens ai
    refine ⟨x,ax,fun j aL=> ?_⟩
    obtain ⟨-,bI,fX⟩:=World.cells?_some R
    have aP:(f x)[j]? = some (f x)[j]:=List.getElem?_eq_getElem (by rw [he.size];exact aL)
    have aS:ja[j]? = some ja[j]:=List.getElem?_eq_getElem (by omega)
    obtain ⟨d1,d2⟩:=ba j _ _ aP aS
    exact ⟨_,_,aP,by rw [fX j aL,aS],d1,d2⟩
   obtain ⟨l,rv,uC⟩:=Fm len each
   refine ⟨l,⟨by omega,fun x ad=> ?_⟩,.one rfl ?_⟩
   ·obtain ⟨i,a6⟩:=List.getElem?_of_mem ad
    exact (uC i x a6).1
   ·rcases Nat.eq_zero_or_pos len with h0|h0
    ·subst h0
     have:l=[]:=List.length_eq_zero_iff.1 rv
     subst this
     exact .fx _ _ _ (by simp)
    ·obtain ⟨ct,off,spot⟩:=a
     have NP:spot=none∧ct<w.heap.size:=by
      obtain ⟨x,-,R⟩:=each 0 h0
      obtain ⟨y,v,-,ai,-⟩:=R 0 ln
      simp only [Nat.zero_mul,Addr.add,if_true] at ai
      unfold World.cell? at ai
      cases dy:w.heap[ct]? with
      | none=>simp [dy] at ai
      | some I =>
       have cG:=(Array.getElem?_eq_some_iff.1 dy).1
       refine ⟨?_,cG⟩
       simp only [dy] at ai
       cases I<;>simp at ai
       cases spot with
       | none=>rfl
       | some _=>simp at ai
     obtain ⟨rfl,mJ⟩:=NP
     have fe:kg w (fun b=>b<w.heap.size) (fun _ _=>False) (fun _ _=>none) ct off (P.cellsOf e) (l.map f):=by
      have hle : ∀z∈l.map f,z.length=P.cellsOf e:=by
       intro z cq
       rw [List.mem_map] at cq
       obtain ⟨x,-,rfl⟩:=cq
       exact he.size x
      refine ⟨hle,fun j x ad=> ?_⟩
      have aL:j<len*P.cellsOf e:=by
       have:=dt ad
       rw [l5 _ hle,List.length_map,rv] at this
       exact this
      have a6:j / P.cellsOf e<len:=Nat.div_lt_of_lt_mul (by rw [Nat.mul_comm];exact aL)
      have ao:j % P.cellsOf e<P.cellsOf e:=Nat.mod_lt _ ln
      have lq:j=j / P.cellsOf e*P.cellsOf e+j % P.cellsOf e:=by rw [Nat.mul_comm];exact (Nat.div_add_mod j _).symm
      have rj:l[j / P.cellsOf e]? = some (l[j / P.cellsOf e]'(by omega)):=List.getElem?_eq_getElem _
      have O1:(l.map f)[j / P.cellsOf e]? = some (f (l[j / P.cellsOf e]'(by omega))):=AJ rj
      obtain ⟨y,v,e1,az,bp,cI⟩:=(uC _ _ rj).2 _ ao
      have gK:=sx hle O1 ao
      rw [← lq,ad,e1] at gK
      obtain rfl:=Option.some.inj gK
      refine ⟨v,?_,bp,cI⟩
      rw [l9,l9] at az
      rw [lq]
      rw [Nat.add_assoc] at az
      exact az
     have:=fe.isl (c:=cap) ⟨mJ,cM he.pure l⟩ (by rw [List.length_map];omega)
     rw [List.length_map,rv] at this
     exact this
theorem f5.aC {bI fX:List av} {cs:List Value} {I n:Nat} (h1:f5 w bI ((cs.drop I).take n)) (R:f5 w fX (cs.drop (I+n))) (bb:bI.length=n):f5 w (bI++fX) (cs.drop I):=by
 obtain ⟨e1,az⟩:=h1
 obtain ⟨f1,f2⟩:=R
 have Nt:cs.drop I=(cs.drop I).take n++cs.drop (I+n):=by
  rw [← List.drop_drop,List.take_append_drop]
 rw [Nt]
 refine ⟨by rw [List.length_append,List.length_append,e1,f1],fun j x v ad aS=> ?_⟩
 rw [List.getElem?_append] at ad aS
 rw [e1] at aS
 split at ad
 ·rename_i aL
  rw [if_pos aL] at aS
  exact az j x v ad aS
 ·rename_i aL
  rw [if_neg aL] at aS
  exact f2 _ x v ad aS
theorem sc {hn:Array Field} (bK:P.underlying t=some (.struct hn)) {H:Type} {enc:TypeId×Value→H} {base:Nat} {spare:Nat→Bool} {held:Bool} {kV:Nat} {cs:List Value} {x:DataW H×List MemPlace}
 (h:DataW.trod enc P w base spare held kV t cs=some x) :
 cs.length=P.cellsOf t∧ ∀(i:Nat) (fd:Field),hn[i]? = some fd→ ∀ {α:Type} {f:α→List av} {cQ:α→Prop},kl P w fd.type f cQ→ ∃a,cQ a∧f5 w (f a) ((cs.drop fd.offset).take (P.cellsOf fd.type)):=by
 obtain ⟨xs,n,-,-,h1,R,ai⟩:=DataW.trod_struct bK h
 refine ⟨h1,fun i fd ns α f cQ ag=> ?_⟩
 have a6:i<xs.length:=by rw [R];exact (Array.getElem?_eq_some_iff.1 ns).1
 have ax:=ai i fd ns
 rw [List.getElem?_eq_getElem a6] at ax
 exact ag.opens ax
theorem kO {hn:Array Field} {cs:List Value}
 (h : ∀(i:Nat) (fd:Field),hn[i]? = some fd→ ∀ {α:Type} {f:α→List av} {cQ:α→Prop},kl P w fd.type f cQ→ ∃a,cQ a∧f5 w (f a) ((cs.drop fd.offset).take (P.cellsOf fd.type)))
 (i off n:Nat) {fd:Field} (ns:hn[i]? = some fd) (ag:fd.offset=off) (bb:P.cellsOf fd.type=n) {α:Type} {f:α→List av} {cQ:α→Prop} (I:kl P w fd.type f cQ) : ∃a,cQ a∧f5 w (f a) ((cs.drop off).take n):=by
 subst ag;subst bb
 exact h i fd ns I
theorem f5.end_ {cs:List Value} {n:Nat} (h:cs.length≤n):f5 w [] (cs.drop n):=by
 rw [List.drop_of_length_le h];exact .nil w
theorem KU {x:av} {v:Value} (h:f5 w [x] v.cells.toList) (aS : ∀cs,v≠ .agg cs):Rel w (fun b=>b<w.heap.size) (fun _ _=>False) (fun _ _=>none) x v:=by
 have a3:v.cells.toList=[v]:=by
  cases v<;>first|rfl|exact absurd rfl (aS _)
 rw [a3] at h
 exact (h.2 0 x v rfl rfl).2
theorem Lx {c:List av} {cs:Array Value} (h:f5 w c (Value.agg cs).cells.toList):Rel w (fun b=>b<w.heap.size) (fun _ _=>False) (fun _ _=>none) (.agg c) (.agg cs):=by
 have a3:(Value.agg cs).cells.toList=cs.toList:=rfl
 rw [a3] at h
 have R:=Rel.agg (c:=c) cs.toList h.1 (fun j v aS=>by
  have aL:=dt aS
  have ad:c[j]? = some (c[j]'(by rw [← h.1];exact aL)):=List.getElem?_eq_getElem _
  exact (h.2 j _ v ad aS).1) (fun j x v ad aS=>(h.2 j x v ad aS).2)
 simpa using R
theorem arg_one {α:Type} {f:α→av} {F:α→List av} {cQ:α→Prop} (ag:kl P w t F cQ) (PR : ∀a,F a=[f a]) {H:Type} {enc:TypeId×Value→H} {base:Nat} {spare:Nat→Bool} {held:Bool} {v:Value} {d:DataW H} {cp:List MemPlace}
 (h:DataW.Trod enc P w base spare held t v d cp) (aS : ∀cs,v≠ .agg cs) : ∃a,cQ a∧Rel w (fun b=>b<w.heap.size) (fun _ _=>False) (fun _ _=>none) (f a) v:=by
 obtain ⟨kV,bB⟩:=h
 obtain ⟨a,h1,R⟩:=ag.opens bB
 rw [PR] at R
 exact ⟨a,h1,KU R aS⟩
theorem arg_agg {α:Type} {F:α→List av} {cQ:α→Prop} (ag:kl P w t F cQ) {H:Type} {enc:TypeId×Value→H} {base:Nat} {spare:Nat→Bool} {held:Bool} {cs:Array Value} {d:DataW H} {cp:List MemPlace}
 (h:DataW.Trod enc P w base spare held t (.agg cs) d cp) : ∃a,cQ a∧Rel w (fun b=>b<w.heap.size) (fun _ _=>False) (fun _ _=>none) (.agg (F a)) (.agg cs):=by
 obtain ⟨kV,bB⟩:=h
 obtain ⟨a,h1,R⟩:=ag.opens bB
 exact ⟨a,h1,Lx R⟩
def qH (w:World) (args:List av) (vs:List Value):Prop :=
 vs.length=args.length∧ ∀(j:Nat) x v,args[j]? = some x→vs[j]? = some v→Rel w (fun b=>b<w.heap.size) (fun _ _=>False) (fun _ _=>none) x v
theorem qH.nil:qH w [] []:=⟨rfl,fun j x v ad=>by simp at ad⟩
theorem qH.cons {x:av} {v:Value} {args:List av} {vs:List Value} (h:Rel w (fun b=>b<w.heap.size) (fun _ _=>False) (fun _ _=>none) x v) (t:qH w args vs):qH w (x::args) (v::vs):=by
 refine ⟨by simp [t.1],fun j y u aP hu=> ?_⟩
 match j,aP,hu with
 | 0,aP,hu=>obtain rfl:=Option.some.inj aP;obtain rfl:=Option.some.inj hu;exact h
 | j+1,aP,hu=>exact t.2 j y u (by simpa using aP) (by simpa using hu)
theorem trod_lt' {H:Type} {enc:TypeId×Value→H} {base:Nat} {spare:Nat→Bool} {held:Bool} {v:Value} {d:DataW H} {cp:List MemPlace} (h:DataW.Trod enc P w base spare held t v d cp) : ∀p∈cp,p.block<w.heap.size:=by
 obtain ⟨kV,bB⟩:=h
 exact DataW.trod_lt kV t v.cells.toList (d,cp) bB
theorem Con.row {f:FuncId} {args:List av} {b:Bool} (h:Con P f args [] (.b b) []) {vs:List Value} (bL:qH w args vs) :
 Calls P f vs.toArray w fun e bo=>e = .returned (.bool b)∧Below w.heap.size w bo:=by
 let g:G:={iT:=w,A:=fun b=>b<w.heap.size,kI:=fun _=>False,N:=0,m:=0,ks:=(c2 []).aI,lP:=(c2 []).aR fun _ _=>none}
 have aX : ∀r k,(c2 []).ap r k=none:=by intro r k;simp [S.ap,c2,b5]
 have cR:fj g (c2 []) (fun _ _=>none) w:=by
  have f9 : ∀j k,¬(c2 []).aI j k:=fun j k aL=>by simp [S.aI,c2] at aL
  refine ⟨?_,?_,?_,⟨rfl,rfl,rfl,Nat.le_refl _,fun _ _ _=>rfl⟩,?_,?_,?_,?_⟩
  ·intro r k I ag;rw [aX] at ag;simp at ag
  ·intro r k I cS ck bn b m dp ag;rw [aX] at ag;simp at ag
  ·intro r k I b m ag;rw [aX] at ag;simp at ag
  ·intro b aW;exact aW.elim
  ·intro b aW;exact aW
  ·intro j k aL;exact absurd aL (f9 j k)
  ·intro j k aL;exact absurd aL (f9 j k)
 have a3:=h.2 g (fun _ _=>none) w vs.toArray rfl rfl rfl rfl cR (by simpa using bL.1) (fun j x v ad aS=>(bL.2 j x v ad (by simpa using aS)).mono
  (fun b aW=>⟨aW,.inl aW,fun aK=>by
    obtain ⟨r,k,I,m,h1,-⟩:=aK
    rw [aX] at h1;simp at h1⟩) (fun _ _=>rfl) (fun r k ao=>ao.elim) (fun r k ao=>ao.elim))
 refine a3.mono fun e bo aU=> ?_
 obtain ⟨v,bc,rfl,h1,R⟩:=aU
 have aS:=R.nq
 subst aS
 exact ⟨rfl,h1.fc.os,h1.fc.tape,h1.fc.output,h1.fc.size,fun k bl=>h1.fc.block k bl id⟩
end
end Go.VL
namespace Go.VL
set_option linter.unusedVariables false
set_option linter.unusedSimpArgs false
open Go
abbrev Rz:ae:=⟨0,[],.gone⟩
abbrev gv:=Option (Nat×Nat)
abbrev jj (b8 c sz:Nat) (h:gv):av:= .fD b8 c sz h
def nS (b8 c sz:Nat) (h:gv):List av:=[jj b8 c sz h]
theorem AL {b8 c sz:Nat} {h:gv} (e:h=none):hG (jj b8 c sz h) (.isl sz []):=by rw [e];exact .n1 _ _ _
theorem AM {b8 c sz:Nat} {h:gv} {p:Nat×Nat} (e:h=some p):hG (jj b8 c sz h) (.aV b8 (p.1+c) 0 p.2):=by rw [e];exact .s1 _ _ _ _ _
theorem FX {x v:av} (e:x=v):hG x v:=e▸ .refl x
def rk:List av→List av→Prop
 | [],[]=>True
 | a::l,b::m=>hG a b∧rk l m
 | _,_=>False
theorem rk.at_ : ∀ {l m:List av},rk l m→m.length=l.length∧ ∀(j:Nat) x bN,l[j]? = some x→m[j]? = some bN→hG x bN
 | [],[],_=>⟨rfl,fun j x bN h=>by simp at h⟩
 | a::l,b::m,h=>⟨by simp [(rk.at_ h.2).1],fun j x bN ad cj=>by
  cases j with
  | zero=>simp at ad cj;subst ad;subst cj;exact h.1
  | succ j=>exact (rk.at_ h.2).2 j x bN (by simpa using ad) (by simpa using cj)⟩
 | [],_::_,h=>h.elim
 | _::_,[],h=>h.elim
theorem Nu {l m:List av} (h:rk l m):hG (.agg l) (.agg m):= .agg h.at_.1 h.at_.2
theorem A5 {aY:Nat→Option Nat} {b8 h2 c sz:Nat} (bK:aY b8=some h2) (h:gv):jd aY (jj b8 c sz h)=jj h2 c sz h:=by simp only [jj,jd,bK]
theorem wh {aA:el} {b8 h2 c cr sz:Nat} (hm : ∀k,aA h2 (k+cr)=some (b8,k+c)) (h:gv):rf aA (jj b8 c sz h) (jj h2 cr sz h):= .inr (.inr (.inr ⟨b8,c,sz,h,h2,cr,rfl,hm,rfl⟩))
theorem wi (b8 c sz:Nat) (h:gv):a1 (jj b8 c sz h):= .fD _ _ _ _
def cd {α:Type} (bC:dV) (sz:Nat) (f:α→List av) (l:List α):ae:=⟨sz,l.map f,bC⟩
section
variable {α:Type} {sz:Nat} {bC:dV} {f:α→List av} {P:List (List α)} {raw:List ae}
theorem wj (e:raw=P.map (cd bC sz f)) (bl:bC≠ .gone) {k:Nat} {l:List α} (h:P[k]? = some l):b5 (some raw) k=some (ae.mk sz (l.map f) bC):=by
 rw [e,g8,List.getElem?_map,h];exact if_neg bl
theorem k8:dV.live≠ .gone:=by simp
theorem PS:dV.fK≠ .gone:=by simp
theorem Nv (e:raw=P.map (cd .live sz f)):hT raw=P.map (cd .fK sz f):=by rw [e];unfold hT;rw [List.map_map];rfl
theorem QA (P:List (List α)):P.map (cd bC sz f)=P.map (cd bC sz f):=rfl
theorem ta (e:raw=P.map (cd bC sz f)) (k:Nat) {l:List α} {es:List (List av)} (aK:es=l.map f):raw.set k (ae.mk sz es bC)=(P.set k l).map (cd bC sz f):=by
 rw [e,aK,List.map_set];rfl
theorem Nw (bC:dV) (sz:Nat) (f:α→List av):([]:List ae)=([]:List (List α)).map (cd bC sz f):=rfl
theorem Nx (e:raw=P.map (cd bC sz f)) {n:Nat} (h:n=P.length):raw.length=n:=by rw [e,h,List.length_map]
theorem ML (a b n:Nat) : ∀ {x:av},Pure x→hl a b n x=x:=by
 intro x h
 have aK : ∀c:List av,(∀x∈c,hl a b n x=x)→hl.q8 a b n c=c:=by
  intro c a3
  rw [vU]
  exact (List.map_congr_left a3).trans (List.map_id _)
 induction h with
 | agg h ih=>rw [hl,aK _ ih]
 | cy h ih=>rw [hl,aK _ ih]
 | _=>rfl
theorem MM (ak : ∀x,∀v∈f x,Pure v) (a b n:Nat) {es:List (List av)} {l:List α} (e:es=l.map f):es.map (fun e=>e.map (hl a b n))=l.map f:=by
 rw [e,List.map_map]
 refine List.map_congr_left fun x _=> ?_
 exact (List.map_congr_left fun v aS=>ML a b n (ak x v aS)).trans (List.map_id _)
theorem Ny (e:raw=P.map (cd bC sz f)) {Q:List (List α)} {bj:List ae} (h:bj=Q.map (cd bC sz f)):raw++bj=(P++Q).map (cd bC sz f):=by rw [e,h,List.map_append]
theorem FY (ak : ∀x,∀v∈f x,Pure v) (a b n:Nat) {es:List (List av)} {l:List α} (h:es=l.map f) {bj:List ae} {Q:List (List α)} (t:bj.map (iL a b n)=Q.map (cd bC sz f)) :
 (ae.mk sz es bC::bj).map (iL a b n)=(l::Q).map (cd bC sz f):=by
 simp only [List.map_cons,t,iL,MM ak a b n h];rfl
theorem NQ (a b n:Nat):([]:List ae).map (iL a b n)=([]:List (List α)).map (cd bC sz f):=rfl
def lT (P:List (List α)):gv→List α
 | none=>[]
 | some (k,n)=>(P.getD k []).take n
def nx (P:List (List α)):gv→Bool
 | none=>true
 | some (k,n)=>decide (k<P.length) && decide (n≤(P.getD k []).length)
def pb (b8:Nat) (f7:List ae) (bq:dV→Bool):List av→List av→Prop
 | [],[]=>True
 | a::l,b::m=>tO b8 f7 bq a b∧pb b8 f7 bq l m
 | _,_=>False
theorem Fo {b8:Nat} {f7:List ae} {bq:dV→Bool} : ∀ {l m:List av},pb b8 f7 bq l m→m.length=l.length
 | [],[],_=>rfl
 | _::_,_::_,h=>by simp [Fo h.2]
 | [],_::_,h=>h.elim
 | _::_,[],h=>h.elim
theorem FG {b8:Nat} {f7:List ae} {bq:dV→Bool} : ∀ {l m:List av},pb b8 f7 bq l m→ ∀(j:Nat) x bN,l[j]? = some x→m[j]? = some bN→tO b8 f7 bq x bN
 | _::_,_::_,h,0,x,bN,h1,R=>by simp at h1 R;subst h1;subst R;exact h.1
 | _::_,_::_,h,j+1,x,bN,h1,R=>FG h.2 j x bN (by simpa using h1) (by simpa using R)
 | [],_,_,_,_,_,h1,_=>by simp at h1
theorem FH {b8:Nat} {f7:List ae} {bq:dV→Bool} {x:av} (h:x.gy=true):tO b8 f7 bq x x:= .inl ⟨rfl,h⟩
theorem wk {b8 c:Nat} {ir:List ae} {bq:dV→Bool} (e:raw=P.map (cd bC sz f)) (ak : ∀x,∀v∈f x,Pure v) (a3:ir.length=c) (bl:bC≠ .gone) (bL:bq bC=true) : ∀ {h:gv},nx P h=true →
 tO b8 (ir++raw) bq (jj b8 c sz h) (.isl sz ((lT P h).map f))
 | none,_=> .inr (.inl ⟨c,sz,rfl,rfl⟩)
 | some (k,n),iK=>by
  simp only [nx,Bool.and_eq_true,decide_eq_true_eq] at iK
  obtain ⟨h1,R⟩:=iK
  have GN:P[k]? = some P[k]:=List.getElem?_eq_getElem h1
  have d5:P.getD k []=P[k]:=by simp [List.getD,GN]
  rw [d5] at R
  refine .inr (.inr ⟨k+c,0,n,ae.mk sz (P[k].map f) bC,.inr ⟨c,sz,k,rfl,rfl,rfl⟩,?_,bL,by simpa using R,?_,?_⟩)
  ·have:=wj e bl GN
   rw [g8] at this ⊢
   rw [List.getElem?_append_right (by omega),a3,show k+c-c=k by omega]
   exact this
  ·intro e he x ad
   rw [List.drop_zero] at he
   have he:=List.mem_of_mem_take he
   rw [List.mem_map] at he
   obtain ⟨y,-,rfl⟩:=he
   exact ak y x ad
  ·simp only [lT,d5,List.drop_zero,List.map_take]
end
theorem lE {α β:Type} {f:α→List av} {g:β→List av} {v:α→β} {b8:Nat} {f7:List ae} {bq:dV→Bool} {sz:Nat} {raw:List (List av)} {xs:List α} (e:raw=xs.map f) (d5 : ∀y,(g y).length=sz)
 (h : ∀x∈xs,pb b8 f7 bq (f x) (g (v x))) {n:Nat} (bb:n=xs.length):xl b8 f7 bq sz ((raw.drop 0).take n) ((xs.map v).map g):=by
 have e0:(raw.drop 0).take n=xs.map f:=by rw [List.drop_zero,bb,e,List.take_of_length_le (by simp)]
 rw [e0]
 have bB : ∀x∈xs,(f x).length=sz:=fun x ad=>by rw [← Fo (h x ad),d5]
 refine ⟨by simp,fun e he=> ?_,fun j x bN ad cj=> ?_⟩
 ·rw [List.mem_map] at he;obtain ⟨y,-,rfl⟩:=he;exact d5 y
 ·rcases Nat.eq_zero_or_pos sz with h0|cB
  ·have : ∀l:List α,(∀x∈l,(f x).length=sz)→(l.map f).flatten=[]:=by
    intro l aK
    induction l with
    | nil=>rfl
    | cons a l ih =>
     have h1:=aK a (by simp)
     rw [h0] at h1
     rw [List.map_cons,List.flatten_cons,ih fun x ad=>aK x (by simp [ad]),List.length_eq_zero_iff.1 h1];rfl
   rw [this xs bB] at ad;simp at ad
  ·rw [lc cB _ (by intro e he;rw [List.mem_map] at he;obtain ⟨y,aP,rfl⟩:=he;exact bB y aP)] at ad
   rw [lc cB _ (by intro e he;rw [List.mem_map] at he;obtain ⟨y,-,rfl⟩:=he;exact d5 y)] at cj
   rw [List.getElem?_map,List.getElem?_map] at cj
   rw [List.getElem?_map] at ad
   cases aP:xs[j / sz]? with
   | none=>rw [aP] at ad;simp at ad
   | some y =>
    rw [aP] at ad cj
    simp only [Option.map_some,Option.bind_some] at ad cj
    exact FG (h y (List.mem_of_getElem? aP)) _ x bN ad cj
theorem Qu {b8:Nat} {f7:List ae} {bq:dV→Bool} {sz:Nat} {α:Type} {f:α→List av} {raw:List (List av)} {l:List α} (e:raw=l.map f) (aK : ∀x,(f x).length=sz) (bb : ∀x,∀v∈f x,v.gy=true) {bk n:Nat} (iw:bk+n≤raw.length) :
 xl b8 f7 bq sz ((raw.drop bk).take n) (((l.drop bk).take n).map f):=by
 have e1:(raw.drop bk).take n=((l.drop bk).take n).map f:=by rw [e,List.map_take,List.map_drop]
 rw [e1]
 refine ⟨rfl,fun e he=> ?_,fun j x bN ad cj=> ?_⟩
 ·rw [List.mem_map] at he;obtain ⟨y,-,rfl⟩:=he;exact aK y
 ·rw [ad] at cj;simp at cj;subst cj
  obtain ⟨e,he,lo⟩:=mv ad
  rw [List.mem_map] at he;obtain ⟨y,-,rfl⟩:=he
  exact .inl ⟨rfl,bb y x lo⟩
section
variable {aY:Nat→Option Nat}
theorem hE:([]:List ae)=([]:List ae).map (jR aY):=rfl
theorem dh {I bn:ae} {l dS:List ae} (h:bn=jR aY I) (t:dS=l.map (jR aY)):bn::dS=(I::l).map (jR aY):=by rw [h,t];rfl
theorem FZ {α:Type} {sz:Nat} {bC:dV} {f hf:α→List av} {raw:List (List av)} {xs:List α} (e:raw=xs.map f) (h : ∀x,(f x).map (jd aY)=hf x):ae.mk sz (xs.map hf) bC=jR aY (ae.mk sz raw bC):=by
 simp only [jR,e,List.map_map,ae.mk.injEq,true_and,and_true]
 exact List.map_congr_left fun x _=>(h x).symm
theorem hD {α:Type} {bC:dV} {sz:Nat} {f:α→List av} {raw:List ae} {P:List (List α)} (e:raw=P.map (cd bC sz f)) (h : ∀x,(f x).map (jd aY)=f x):P.map (cd bC sz f)=raw.map (jR aY):=by
 rw [e,List.map_map]
 refine List.map_congr_left fun l _=> ?_
 exact FZ rfl h
theorem QD {α:Type} (sz:Nat) (f:α→List av) (I:Option α):jd aY (lx sz f I)=lx sz f I:=by cases I<;>rfl
theorem kP:fI []:=fun I h=>by simp at h
theorem fi {I:ae} {l:List ae} (h:I.bC = .live) (t:fI l):fI (I::l):=fun p ak=>by
 rcases List.mem_cons.1 ak with e|e
 ·rw [e];exact .inl h
 ·exact t p e
theorem Qe {I:ae} {l:List ae} (h:I.bC = .gone) (t:fI l):fI (I::l):=fun p ak=>by
 rcases List.mem_cons.1 ak with e|e
 ·rw [e];exact .inr h
 ·exact t p e
theorem kB {α:Type} {sz:Nat} {f:α→List av} {raw:List ae} {P:List (List α)} (e:raw=P.map (cd .live sz f)):fI raw:=fun I ag=>by
 rw [e,List.mem_map] at ag;obtain ⟨l,-,rfl⟩:=ag;exact .inl rfl
end
section
variable {aA:el}
theorem QB:rh aA [] []:=⟨rfl,fun k I bn h=>by simp at h⟩
def GO (aA:el) (I bn:ae):Prop:=bn.sz=I.sz∧bn.bC=I.bC∧bn.es.length=I.es.length∧(∀e∈bn.es,e.length=I.sz) ∧
 ∀(j:Nat) x bN,I.es.flatten[j]? = some x→bn.es.flatten[j]? = some bN→rf aA x bN
theorem Qv {I bn:ae} {l dS:List ae} (h:GO aA I bn) (t:rh aA l dS):rh aA (I::l) (bn::dS):=by
 refine ⟨by simp [t.1],fun k p hx ak jP=> ?_⟩
 cases k with
 | zero=>simp at ak jP;subst ak;subst jP;exact h
 | succ k=>exact t.2 k p hx (by simpa using ak) (by simpa using jP)
def ny (aA:el):List av→List av→Prop
 | [],[]=>True
 | a::l,b::m=>rf aA a b∧ny aA l m
 | _,_=>False
theorem Fp : ∀ {l m:List av},ny aA l m→m.length=l.length
 | [],[],_=>rfl
 | _::_,_::_,h=>by simp [Fp h.2]
 | [],_::_,h=>h.elim
 | _::_,[],h=>h.elim
theorem FI : ∀ {l m:List av},ny aA l m→ ∀(j:Nat) x bN,l[j]? = some x→m[j]? = some bN→rf aA x bN
 | _::_,_::_,h,0,x,bN,h1,R=>by simp at h1 R;subst h1;subst R;exact h.1
 | _::_,_::_,h,j+1,x,bN,h1,R=>FI h.2 j x bN (by simpa using h1) (by simpa using R)
 | [],_,_,_,_,_,h1,_=>by simp at h1
theorem FJ {x:av} (h:x.gy=true):rf aA x x:= .inl ⟨rfl,h⟩
theorem NR {α:Type} {sz:Nat} {bC:dV} {f hf:α→List av} {raw:List (List av)} {xs:List α} (e:raw=xs.map f) (aK : ∀x,(hf x).length=sz) (h : ∀x,ny aA (f x) (hf x)):GO aA (ae.mk sz raw bC) (ae.mk sz (xs.map hf) bC):=by
 subst e
 refine ⟨rfl,rfl,by simp,fun e he=> ?_,fun j x bN ad cj=> ?_⟩
 ·simp only [List.mem_map] at he;obtain ⟨y,-,rfl⟩:=he;exact aK y
 ·simp only at ad cj
  rcases Nat.eq_zero_or_pos sz with h0|cB
  ·have:(xs.map hf).flatten=[]:=by
    induction xs with
    | nil=>rfl
    | cons a l ih =>
     have h1:=aK a
     rw [h0] at h1
     have R:(l.map hf).flatten=[]:=by
      clear ih ad cj
      induction l with
      | nil=>rfl
      | cons b l ih =>
       have h1:=aK b
       rw [h0] at h1
       rw [List.map_cons,List.flatten_cons,ih,List.length_eq_zero_iff.1 h1];rfl
     rw [List.map_cons,List.flatten_cons,R,List.length_eq_zero_iff.1 h1];rfl
   rw [this] at cj;simp at cj
  ·have O2 : ∀x,(f x).length=sz:=fun x=>by rw [← Fp (h x),aK]
   rw [lc cB _ (by intro e he;rw [List.mem_map] at he;obtain ⟨y,-,rfl⟩:=he;exact O2 y)] at ad
   rw [lc cB _ (by intro e he;rw [List.mem_map] at he;obtain ⟨y,-,rfl⟩:=he;exact aK y)] at cj
   rw [List.getElem?_map] at ad cj
   cases aP:xs[j / sz]? with
   | none=>rw [aP] at ad;simp at ad
   | some y =>
    rw [aP] at ad cj
    simp only [Option.map_some,Option.bind_some] at ad cj
    exact FI (h y) _ x bN ad cj
theorem MN {l:List av} (h : ∀v∈l,v.gy=true):ny aA l l:=by
 induction l with
 | nil=>trivial
 | cons a l ih=>exact ⟨.inl ⟨rfl,h a (by simp)⟩,ih fun v aS=>h v (by simp [aS])⟩
theorem Qw {α:Type} {bC:dV} {sz:Nat} {f:α→List av} {raw:List ae} {P:List (List α)} (e:raw=P.map (cd bC sz f)) (aK : ∀x,(f x).length=sz) (bb : ∀x,∀v∈f x,v.gy=true):rh aA raw (P.map (cd bC sz f)):=by
 subst e
 refine ⟨rfl,fun k I bn ag cz=> ?_⟩
 rw [ag] at cz;simp at cz;subst cz
 rw [List.getElem?_map,Option.map_eq_some_iff] at ag
 obtain ⟨l,-,rfl⟩:=ag
 exact NR rfl aK fun x=>MN (bb x)
end
theorem gx:fE []:=fun row h=>by simp at h
theorem gw {row:List ae} {T:List (List ae)} (h : ∀I∈row,∀e∈I.es,∀x∈e,a1 x) (t:fE T):fE (row::T):=fun r ao=>by
 rcases List.mem_cons.1 ao with e|e
 ·rw [e];exact h
 ·exact t r e
theorem hR : ∀I∈([]:List ae),∀e∈I.es,∀x∈e,a1 x:=fun I h=>by simp at h
theorem eV {I:ae} {row:List ae} (h : ∀e∈I.es,∀x∈e,a1 x) (t : ∀I∈row,∀e∈I.es,∀x∈e,a1 x) : ∀p∈I::row,∀e∈p.es,∀x∈e,a1 x:=fun p ak=>by
 rcases List.mem_cons.1 ak with e|e
 ·rw [e];exact h
 ·exact t p e
theorem eS {α:Type} {sz:Nat} {bC:dV} {f:α→List av} {xs:List α} (h : ∀x,∀v∈f x,a1 v) : ∀e∈(ae.mk sz (xs.map f) bC).es,∀x∈e,a1 x:=fun e he x ad=>by
 simp only [List.mem_map] at he;obtain ⟨y,-,rfl⟩:=he;exact h y x ad
theorem nl {α:Type} {bC:dV} {sz:Nat} {f:α→List av} {P:List (List α)} (h : ∀x,∀v∈f x,a1 v) : ∀I∈P.map (cd bC sz f),∀e∈I.es,∀x∈e,a1 x:=fun I ag=>by
 rw [List.mem_map] at ag;obtain ⟨l,-,rfl⟩:=ag;exact eS h
theorem km : ∀x,∀v∈U x,a1 v:=fun x v h=>by simp [U] at h;subst h;exact .n _ _
theorem QE : ∀x,∀v∈po x,a1 v:=fun x v h=>by simp [po] at h;subst h;exact .b _
theorem QF : ∀x,∀v∈pp x,a1 v:=fun x v h=>by simp [pp] at h;subst h;exact .s _
theorem gW : ∀x,∀v∈U x,v.gy=true:=fun x v h=>by simp [U] at h;subst h;rfl
theorem QG : ∀x,∀v∈po x,v.gy=true:=fun x v h=>by simp [po] at h;subst h;rfl
theorem QH : ∀x,∀v∈pp x,v.gy=true:=fun x v h=>by simp [pp] at h;subst h;rfl
theorem Qx {l:List av} (h : ∀x∈l,a1 x):a1 (.cy l):= .cy h
theorem vP : ∀x∈([]:List av),a1 x:=fun x h=>by simp at h
theorem lf {a:av} {l:List av} (h:a1 a) (t : ∀x∈l,a1 x) : ∀x∈a::l,a1 x:=fun x ad=>by
 rcases List.mem_cons.1 ad with e|e
 ·rw [e];exact h
 ·exact t x e
theorem QI {aY:Nat→Option Nat} {b8 h2 c sz:Nat} (bK:aY b8=some h2) (h:gv):(nS b8 c sz h).map (jd aY)=nS h2 c sz h:=by simp only [nS,List.map_cons,List.map_nil,A5 bK]
theorem QJ {aA:el} {b8 h2 c cr sz:Nat} (hm : ∀k,aA h2 (k+cr)=some (b8,k+c)) (h:gv):ny aA (nS b8 c sz h) (nS h2 cr sz h):=⟨wh hm h,trivial⟩
theorem QK (b8 c sz:Nat) : ∀x,∀v∈nS b8 c sz x,a1 v:=fun x v h=>by simp [nS] at h;subst h;exact wi _ _ _ x
theorem Q3 {α:Type} {sz:Nat} {bC:dV} {f:α→List av} {P:List (List α)} {raw:List ae} {b8 c:Nat} {ir:List ae} {bq:dV→Bool} (e:raw=P.map (cd bC sz f)) (ak : ∀x,∀v∈f x,Pure v) (a3:ir.length=c) (bl:bC≠ .gone) (bL:bq bC=true)
 {h:gv} (a6:nx P h=true):pb b8 (ir++raw) bq (nS b8 c sz h) (ry sz f (lT P h)):=⟨wk e ak a3 bl bL a6,trivial⟩
theorem lF {α:Type} {p:α→Bool} {l:List α} (h:l.all p=true) : ∀x∈l,p x=true:=List.all_eq_true.1 h
theorem QL {bH:Type} {sz:Nat} {f:bH→List av} : ∀l,∀v∈ry sz f l,v.gy=true:=fun l v h=>by simp [ry] at h;subst h;rfl
theorem QM {bH:Type} {sz:Nat} {f:bH→List av} : ∀l,∀v∈fZ sz f l,v.gy=true:=fun l v h=>by simp [fZ] at h;subst h;rfl
theorem dj {α:Type} {f:α→List av} (h : ∀x,∀v∈f x,v.gy=true) {aY:Nat→Option Nat} (x:α):(f x).map (jd aY)=f x:=by
 refine (List.map_congr_left fun v aS=> ?_).trans (List.map_id _)
 have:=h x v aS
 cases v<;>simp [av.gy] at this<;>simp [jd,av.gy]
theorem QC : ∀x,∀v∈w0 x,v.gy=true:=fun x v h=>by simp [w0] at h;subst h;rfl
end Go.VL
namespace Go.VL
set_option linter.unusedVariables false
set_option linter.unusedSimpArgs false
open Go
def o:Nat→List (ea×Bool)→List (ea×Bool)
 | 0,l=>l
 | n+1,l=>PP::o n l
def cc:Nat→List (ea×Bool)→List (ea×Bool)
 | 0,l=>l
 | n+1,l=>PQ::cc n l
def aj (a:ea) (l:List (ea×Bool)):List (ea×Bool):=(a,true)::l
def bM (n:Nat) (r:av) (cH:Bool) (cK:List Nat:=[]):ea:= .call {ac:=List.replicate n ii,r:=r,cH:=cH,cK:=cK}
def bf:List Nat→List (Nat×h5)
 | []=>[]
 | n::l=>(n,ii)::bf l
def fV (n:Nat):h5:= .bI (.cb (.len n))
structure dc where
 x:Option Nat
 env:List (Nat×av)
 rows:List (List ae)
def dc.e (I:dc):pn:=match I.x with
 | some i=> .exit i
 | none=> .ret
def dc.cW (I:dc):S:=c6 I.env I.rows
def dc.eU (I:dc):bx:= .sub I.e I.env I.rows
theorem dc.ne (I:dc):I.e.x≠ .normal:=by
 unfold dc.e;split<;>simp [pn.x]
section
variable {P:Program} {N m:Nat} {α β:Type}
def dI (P:Program) (N m f:Nat) (p:List Nat) (s:S) (head:α→S) (out:β→dc):α⊕β→Prop
 | .inl a=>gb P N m (nodeAt (AY P f) p) .normal s (head a)
 | .inr r=>gb P N m (nodeAt (AY P f) p) (out r).e.x s (out r).cW
def dJ (P:Program) (N m f:Nat) (p:List Nat) (head:α→S) (out:β→dc) (a:α) (r:β):Prop :=
 gb P N m (.loop (nodeAt (AY P f) p)) (out r).e.x (head a) (out r).cW
theorem dK {f:Nat} {p:List Nat} {b:α→Option (α⊕β)} {head:α→S} {out:β→dc} (h : ∀a,bm (b a) (dI P N m f p (head a) head out)) {a:α} {r:β} (ao:iter b a=some r):dJ P N m f p head out a r :=
 (M4 (head:=head) (gN:=fun r=>(out r).e.x) (out:=fun r=>(out r).cW) (fun r=>(out r).ne) (fun a r ao=>by
   have:=h a r ao
   cases r with
   | inl cE=>exact this
   | inr cS=>exact this) a r ao).OY
end
section
variable {a b c d e f g h i j:Prop} {l:List Prop}
theorem b2.e1 (x1:a):b2 [a]:= .c x1 .nil
theorem b2.fX (x1:a) (fl:b) (t:b2 l):b2 (a::b::l):= .c x1 (.c fl t)
theorem b2.az (x1:a) (fl:b):b2 [a,b]:= .fX x1 fl .nil
theorem b2.kh (x1:a) (fl:b) (al:c) (t:b2 l):b2 (a::b::c::l):= .c x1 (.fX fl al t)
theorem b2.bp (x1:a) (fl:b) (al:c):b2 [a,b,c]:= .kh x1 fl al .nil
theorem b2.uG (x1:a) (fl:b) (al:c) (fh:d) (t:b2 l):b2 (a::b::c::d::l):= .c x1 (.kh fl al fh t)
theorem b2.cI (x1:a) (fl:b) (al:c) (fh:d):b2 [a,b,c,d]:= .uG x1 fl al fh .nil
theorem b2.He (x1:a) (fl:b) (al:c) (fh:d) (bU:e) (t:b2 l):b2 (a::b::c::d::e::l):= .c x1 (.uG fl al fh bU t)
theorem b2.dM (x1:a) (fl:b) (al:c) (fh:d) (bU:e):b2 [a,b,c,d,e]:= .He x1 fl al fh bU .nil
theorem b2.Hf (x1:a) (fl:b) (al:c) (fh:d) (bU:e) (bP:f) (t:b2 l):b2 (a::b::c::d::e::f::l):= .c x1 (.He fl al fh bU bP t)
theorem b2.ez (x1:a) (fl:b) (al:c) (fh:d) (bU:e) (bP:f):b2 [a,b,c,d,e,f]:= .Hf x1 fl al fh bU bP .nil
theorem b2.br (x1:a) (fl:b) (al:c) (fh:d) (bU:e) (bP:f) (b1:g) (kK:h) (t:b2 l):b2 (a::b::c::d::e::f::g::h::l):= .fX x1 fl (.Hf al fh bU bP b1 kK t)
theorem b2.eQ (x1:a) (fl:b) (al:c) (fh:d) (bU:e) (bP:f) (b1:g):b2 [a,b,c,d,e,f,g]:= .c x1 (.ez fl al fh bU bP b1)
theorem b2.hN (x1:a) (fl:b) (al:c) (fh:d) (bU:e) (bP:f) (b1:g) (kK:h):b2 [a,b,c,d,e,f,g,h]:= .fX x1 fl (.ez al fh bU bP b1 kK)
end
section
variable {α bH:Type}
theorem aT (f:bH→List av) (l:List bH):l.map f=l.map f:=rfl
theorem bw (l:List bH):l.length=l.length:=rfl
theorem er (bC:dV) (sz:Nat) (f:bH→List av) (P:List (List bH)):P.map (cd bC sz f)=P.map (cd bC sz f):=rfl
theorem i3 (x:α):x=x:=rfl
theorem bF:true=true:=rfl
theorem hg:false=false:=rfl
theorem cm (f:bH→List av) {l:List bH} {i:Nat} {x:bH} (h:l[i]? = some x):(l.map f)[i]? = some (f x):=AJ h
theorem c9 (f:bH→List av) {l:List bH} {j:Int} (h:j<l.length):j<((l.map f).length:Nat):=Fk h
theorem i4 (f:bH→List av) {l:List bH} {j:Nat} (h:j<l.length):j<(l.map f).length:=FF h
theorem eA (sz:Nat) (bC:dV) {raw:List (List av)} {f:bH→List av} {l:List bH} (e:raw=l.map f):[ae.mk sz raw bC]=[ae.mk sz (l.map f) bC]:=M6 e
theorem bD (sz:Nat) (bC:dV) {f:bH→List av} (bB : ∀x,∀v∈f x,Pure v) (l:List bH):sV [ae.mk sz (l.map f) bC]:=MI bB l
theorem eR (sz:Nat) {f:bH→List av} (bB : ∀x,∀v∈f x,Pure v) (l:List bH):nk [ae.mk sz (l.map f) .live]:=L5 bB l
theorem O3 {sz:Nat} {f:bH→List av} {x:Option bH} (h:x=none):hG (lx sz f x) (.fT sz none):=FX (Na h)
theorem w2 {sz:Nat} {f:bH→List av} {x:Option bH} {y:bH} (h:x=some y):hG (lx sz f x) (.fT sz (some (f y))):=FX (Nb h)
theorem dk {aY:Nat→Option Nat} (sz:Nat) (bC:dV) {f:bH→List av} (hf:bH→List av) {raw:List (List av)} {xs:List bH} (e:raw=xs.map f) (h : ∀x,(f x).map (jd aY)=hf x):ae.mk sz (xs.map hf) bC=jR aY (ae.mk sz raw bC):=FZ e h
end
end Go.VL
namespace Go.VL
set_option linter.unusedVariables false
set_option linter.unusedSimpArgs false
open Go
theorem b4 {x:Int} (h1 : -9223372036854775808≤x) (R:x<9223372036854775808):ab x=x:=by
 simp only [ab,IntKind.wrap,IntKind.signed,IntKind.bits]
 have:((2:Int) ^ 64)=18446744073709551616:=by decide
 have Q4:((2:Int) ^ 63)=9223372036854775808:=by decide
 simp
 omega
theorem E1 {x:Int}:lO x↔ -9223372036854775808≤x∧x<9223372036854775808:=by
 have h1:IntKind.min .i64 = -9223372036854775808:=by decide
 have R:IntKind.max .i64=9223372036854775807:=by decide
 simp only [lO,Lit.wf,h1,R,Bool.and_eq_true,decide_eq_true_eq]
 omega
theorem E2 {α β:Type} {f:α→Option (α⊕β)} {s:Nat→α} {r:β} (n:Nat) : ∀(k:Nat),(∀i,k≤i→i<k+n→f (s i)=some (.inl (s (i+1))))→f (s (k+n))=some (.inr r)→iter f (s k)=some r:=by
 induction n with
 | zero =>
  intro k _ h
  rw [iter]
  simp at h
  simp [h]
 | succ n ih =>
  intro k h1 R
  rw [iter,h1 k (Nat.le_refl _) (by omega)]
  simp
  exact ih (k+1) (fun i ai ax=>h1 i (by omega) (by omega)) (by rw [show k+1+n=k+(n+1) by omega];exact R)
def scan {α β:Type} (t:Nat→α→Option β):Nat→List α→Option β
 | _,[]=>none
 | n,x::xs=>match t n x with
  | some b=>some b
  | none=>scan t (n+1) xs
theorem vB {α β:Type} {f:Int→Option (Int⊕β)} {t:Nat→α→Option β} {e:β} : ∀(xs:List α) (k:Nat),
 (∀n x,xs[n]? = some x→f ((k+n:Nat):Int)=some (match t (k+n) x with|some b=> .inr b|none=> .inl ((k+n+1:Nat):Int)))→f ((k+xs.length:Nat):Int)=some (.inr e)→iter f (k:Int)=some ((scan t k xs).getD e)
 | [],k,_,h=>by
  rw [iter]
  simp at h
  simp [h,scan]
 | x::xs,k,h1,R=>by
  have ai:=h1 0 x rfl
  simp only [Nat.add_zero] at ai
  rw [iter,ai]
  simp only [scan]
  cases bK:t k x with
  | some b=>simp
  | none =>
   simp only [Option.bind_eq_bind,Option.bind_some]
   refine vB xs (k+1) (fun n y aP=> ?_) ?_
   ·have:=h1 (n+1) y (by simpa using aP)
    rw [show k+(n+1)=k+1+n by omega] at this
    exact this
   ·rw [show k+1+xs.length=k+(x::xs).length by simp;omega];exact R
theorem fN {α β:Type} {f:α→Option (α⊕β)} (cQ:α→Prop) (m:α→Nat) (Q:β→Prop)
 (h : ∀a,cQ a→(∃cE,f a=some (.inl cE)∧cQ cE∧m cE<m a)∨ ∃r,f a=some (.inr r)∧Q r) : ∀a,cQ a→ ∃r,iter f a=some r∧Q r:=by
 have key : ∀n a,m a≤n→cQ a→ ∃r,iter f a=some r∧Q r:=by
  intro n
  induction n with
  | zero =>
   intro a hm eB
   rcases h a eB with ⟨cE,-,-,ai⟩|⟨r,h1,R⟩
   ·omega
   ·exact ⟨r,by rw [iter,h1];rfl,R⟩
  | succ n ih =>
   intro a hm eB
   rcases h a eB with ⟨cE,h1,R,ai⟩|⟨r,h1,R⟩
   ·obtain ⟨r,r1,bj⟩:=ih cE (by omega) R
    exact ⟨r,by rw [iter,h1];exact r1,bj⟩
   ·exact ⟨r,by rw [iter,h1];rfl,R⟩
 exact fun a eB=>key (m a) a (Nat.le_refl _) eB
theorem As {α:Type} {f:Int×List α→Option ((Int×List α)⊕List α)} (xs an:List α) (h0:an.length=xs.length)
 (A4 : ∀(n:Nat) x row,xs[n]? = some x→row.length=xs.length→f ((n:Int),row)=some (.inl (((n+1:Nat):Int),row.set n x)))
 (qW : ∀row,f ((xs.length:Int),row)=some (.inr row)):iter f (0,an)=some xs:=by
 have h:=E2 (f:=f) (s:=fun n=>((n:Int),xs.take n++an.drop n)) (r:=xs) xs.length 0 (fun i _ a6=> ?_) ?_
 ·simpa using h
 ·have ix:i<xs.length:=by omega
  rw [A4 i xs[i] _ (List.getElem?_eq_getElem ix) (by simp;omega)]
  congr 3
  apply List.ext_getElem?
  intro j
  rw [List.getElem?_set]
  simp only [List.length_append,List.length_take,List.length_drop,List.getElem?_append,List.getElem?_take,List.getElem?_drop]
  by_cases aL:i=j
  ·subst aL
   have e1:min (i+1) xs.length=i+1:=by omega
   simp [e1,ix]
   omega
  ·rw [if_neg aL]
   by_cases cG:j<i
   ·have e1:j<min i xs.length:=by omega
    have az:j<min (i+1) xs.length:=by omega
    rw [if_pos e1,if_pos az,if_pos cG,if_pos (by omega)]
   ·have e1 : ¬j<min i xs.length:=by omega
    have az : ¬j<min (i+1) xs.length:=by omega
    rw [if_neg e1,if_neg az]
    congr 1
    omega
 ·simp only [Nat.zero_add]
  rw [qW]
  simp [h0]
theorem Qf {α β:Type} {f:α→Option (α⊕β)} (Q:β→Prop) (h : ∀a r,f a=some (.inr r)→Q r) : ∀a r,iter f a=some r→Q r:=by
 apply iter.partial_correctness f (fun _ r=>Q r)
 intro it ih a r ao
 cases bB:f a with
 | none=>rw [bB] at ao;simp at ao
 | some x =>
  rw [bB] at ao
  cases x with
  | inl cE=>exact ih cE r ao
  | inr cS =>
   have eZ:some cS=some r:=ao
   obtain rfl:=Option.some.inj eZ
   exact h a _ bB
theorem MO {α β bH:Type} {f:α→Option (α⊕β)} {g:α→Option (α⊕bH)} (h:β→bH) (cQ:α→Prop) (eB : ∀a cE,cQ a→f a=some (.inl cE)→cQ cE) (O4 : ∀a,cQ a→g a=(f a).map (Sum.map id h)) :
 ∀a r,iter f a=some r→cQ a→iter g a=some (h r):=by
 apply iter.partial_correctness f (fun a r=>cQ a→iter g a=some (h r))
 intro it ih a r ao bL
 have d5:=O4 a bL
 cases bB:f a with
 | none=>rw [bB] at ao;simp at ao
 | some x =>
  rw [bB] at ao d5
  cases x with
  | inl cE =>
   rw [iter,d5]
   exact ih cE r ao (eB a cE bL bB)
  | inr cS =>
   have eZ:some cS=some r:=ao
   obtain rfl:=Option.some.inj eZ
   rw [iter,d5]
   rfl
end Go.VL
namespace Go.VL
set_option linter.unusedVariables false
set_option linter.unusedSimpArgs false
open Go
def mK {α fH β:Type} (g:Nat→fH→α→fH⊕β) (e:fH→β):List α→Nat→fH→β
 | [],_,s=>e s
 | x::xs,n,s=>match g n s x with
  | .inl bh=>mK g e xs (n+1) bh
  | .inr b=>b
theorem EJ {α fH jn β:Type} {f:jn→Option (jn⊕β)} (cW:Nat→fH→jn) (g:Nat→fH→α→fH⊕β) (e:fH→β) (cQ:Nat→fH→Prop) (bA:List α)
 (h : ∀n s x,cQ n s→bA[n]? = some x→f (cW n s)=some (match g n s x with | .inl bh=> .inl (cW (n+1) bh) | .inr b=> .inr b)∧ ∀bh,g n s x = .inl bh→cQ (n+1) bh)
 (he : ∀s,cQ bA.length s→f (cW bA.length s)=some (.inr (e s))) : ∀(xs:List α) (n:Nat) (s:fH),bA.drop n=xs→n≤bA.length→cQ n s→iter f (cW n s)=some (mK g e xs n s)
 | [],n,s,a9,bb,eB=>by
  have:n=bA.length:=by
   have:=congrArg List.length a9
   simp at this
   omega
  subst this
  rw [iter,he s eB]
  rfl
 | x::xs,n,s,a9,bb,eB=>by
  have ad:bA[n]? = some x:=by
   have:=congrArg (·[0]?) a9
   simpa using this
  have cG:=dt ad
  obtain ⟨h1,R⟩:=h n s x eB ad
  rw [iter,h1]
  simp only [mK]
  cases d5:g n s x with
  | inr b=>rfl
  | inl bh =>
   simp only [Option.bind_eq_bind,Option.bind_some]
   refine EJ cW g e cQ bA h he xs (n+1) bh ?_ (by omega) (R bh d5)
   rw [← List.drop_drop,a9];rfl
theorem En {α fH jn β:Type} {f:jn→Option (jn⊕β)} (cW:Nat→fH→jn) (g:Nat→fH→α→fH⊕β) (e:fH→β) (bA:List α)
 (h : ∀n s x,bA[n]? = some x→f (cW n s)=some (match g n s x with | .inl bh=> .inl (cW (n+1) bh) | .inr b=> .inr b))
 (he : ∀s,f (cW bA.length s)=some (.inr (e s))) (s:fH):iter f (cW 0 s)=some (mK g e bA 0 s) :=
 EJ cW g e (fun _ _=>True) bA (fun n s x _ ad=>⟨h n s x ad,fun _ _=>trivial⟩) (fun s _=>he s) bA 0 s rfl (Nat.zero_le _) trivial
theorem AE {α:Type} {f:Int→Option (Int⊕(Unit⊕Unit))} (xs:List α) (p:α→Bool)
 (h : ∀(n:Nat) x,xs[n]? = some x→f n=some (if p x then .inl ((n+1:Nat):Int) else .inr (.inr ()))) (he:f xs.length=some (.inr (.inl ()))) :
 iter f 0=some (if xs.all p then .inl () else .inr ()):=by
 have:=En (f:=f) (fH:=Unit) (fun n _=>(n:Int)) (fun _ _ x=>if p x then .inl () else .inr (.inr ())) (fun _=> .inl ()) xs (fun n _ x ad=>by
  rw [h n x ad]
  cases p x<;>rfl) (fun _=>he) ()
 rw [show ((0:Nat):Int)=0 from rfl] at this
 rw [this]
 congr 1
 have key : ∀(bA:List α) (n:Nat),mK (fun (_:Nat) (_:Unit) x=>if p x then Sum.inl () else Sum.inr (Sum.inr ())) (fun _=>(Sum.inl ():Unit⊕Unit)) bA n ()=if bA.all p then .inl () else .inr ():=by
  intro bA
  induction bA with
  | nil=>intro n;rfl
  | cons y bA ih =>
   intro n
   simp only [mK,List.all_cons]
   by_cases ak:p y=true
   ·simpa [ak] using ih (n+1)
   ·simp [ak]
 exact key xs 0
theorem L6 {α:Type} {f:Int→Option (Int⊕(Unit⊕Int))} (xs:List α) (p:α→Bool)
 (h : ∀(n:Nat) x,xs[n]? = some x→f n=some (if p x then .inr (.inr (n:Int)) else .inl ((n+1:Nat):Int))) (he:f xs.length=some (.inr (.inl ()))) :
 ∃r,iter f 0=some r∧((∃k:Int,r = .inr k∧0≤k∧xs.any p=true)∨(r = .inl ()∧xs.any p=false)):=by
 have:=En (f:=f) (fH:=Unit) (fun n _=>(n:Int)) (fun n _ x=>if p x then .inr (.inr (n:Int)) else .inl ()) (fun _=> .inl ()) xs (fun n _ x ad=>by
  rw [h n x ad]
  cases p x<;>rfl) (fun _=>he) ()
 rw [show ((0:Nat):Int)=0 from rfl] at this
 refine ⟨_,this,?_⟩
 have key : ∀(bA:List α) (n:Nat),(∃k:Int,mK (fun (n:Nat) (_:Unit) x=>if p x then Sum.inr (Sum.inr (n:Int)) else Sum.inl ()) (fun _=>(Sum.inl ():Unit⊕Int)) bA n () = .inr k∧0≤k∧bA.any p=true) ∨
  (mK (fun (n:Nat) (_:Unit) x=>if p x then Sum.inr (Sum.inr (n:Int)) else Sum.inl ()) (fun _=>(Sum.inl ():Unit⊕Int)) bA n () = .inl ()∧bA.any p=false):=by
  intro bA
  induction bA with
  | nil=>intro n;exact .inr ⟨rfl,rfl⟩
  | cons y bA ih =>
   intro n
   simp only [mK,List.any_cons]
   by_cases ak:p y=true
   ·exact .inl ⟨n,by simp [ak],by omega,by simp [ak]⟩
   ·simpa [ak] using ih (n+1)
 exact key xs 0
theorem i1 {n:Nat} (h:(n:Int)<9223372036854775807):ab ((n:Int)+1)=((n+1:Nat):Int):=by
 rw [b4 (by omega) (by omega)];rfl
end Go.VL
namespace Go.VL
set_option linter.unusedVariables false
set_option linter.unusedSimpArgs false
open Go
def V:List Int→Int
 | []=>0
 | x::xs=>x+1000000000*V xs
def b3 (l:List Int):Prop:= ∀x∈l,0≤x∧x<1000000000
abbrev B (n:Nat):Int:=(1000000000:Int) ^ n
theorem j3 (n:Nat):B (n+1)=1000000000*B n:=by rw [B,B,Int.pow_succ];exact Int.mul_comm _ _
theorem mg (n:Nat):1≤B n:=by
 induction n with
 | zero=>simp [B]
 | succ n ih=>rw [j3];omega
theorem wm (m n:Nat):B (m+n)=B m*B n:=by rw [B,B,B,Int.pow_add]
theorem qM {m n:Nat} (h:m≤n):B m≤B n:=by
 induction n with
 | zero =>
  have:m=0:=by omega
  subst this
  exact Int.le_refl _
 | succ n ih =>
  by_cases hm:m=n+1
  ·subst hm;exact Int.le_refl _
  ·have h1:=ih (by omega)
   have R:=mg n
   rw [j3]
   omega
theorem b3.tail {x:Int} {l:List Int} (h:b3 (x::l)):b3 l:=fun y aP=>h y (by simp [aP])
theorem b3.head {x:Int} {l:List Int} (h:b3 (x::l)):0≤x∧x<1000000000:=h x (by simp)
theorem b3.nil:b3 []:=fun _ h=>by simp at h
theorem b3.cons {x:Int} {l:List Int} (h:0≤x∧x<1000000000) (aK:b3 l):b3 (x::l):=fun y aP=>by
 rcases List.mem_cons.mp aP with rfl|h1
 ·exact h
 ·exact aK y h1
theorem b3.get {l:List Int} (h:b3 l) {n:Nat} {x:Int} (ad:l[n]? = some x):0≤x∧x<1000000000:=h x (List.mem_of_getElem? ad)
theorem b3.take {l:List Int} (h:b3 l) (n:Nat):b3 (l.take n):=fun x ad=>h x (List.mem_of_mem_take ad)
theorem b3.drop {l:List Int} (h:b3 l) (n:Nat):b3 (l.drop n):=fun x ad=>h x (List.mem_of_mem_drop ad)
theorem b3.append {l m:List Int} (h:b3 l) (b9:b3 m):b3 (l++m):=fun x ad=>by
 rcases List.mem_append.mp ad with h1|h1
 ·exact h x h1
 ·exact b9 x h1
theorem b3.set {l:List Int} (h:b3 l) {n:Nat} {x:Int} (ad:0≤x∧x<1000000000):b3 (l.set n x):=fun y aP=>by
 rcases List.mem_or_eq_of_mem_set aP with h1|rfl
 ·exact h y h1
 ·exact ad
theorem b3.O5 (n:Nat):b3 (List.replicate n 0):=fun x ad=>by
 have:=(List.mem_replicate.mp ad).2
 omega
theorem ti:V []=0:=rfl
theorem ib (x:Int) (l:List Int):V (x::l)=x+1000000000*V l:=rfl
theorem hQ {l:List Int} (h:b3 l):0≤V l:=by
 induction l with
 | nil=>simp [V]
 | cons x l ih =>
  have h1:=ih h.tail
  have R:=h.head
  rw [ib];omega
theorem jO {l:List Int} (h:b3 l):V l<B l.length:=by
 induction l with
 | nil=>simp [V,B]
 | cons x l ih =>
  have h1:=ih h.tail
  have R:=h.head
  rw [ib,List.length_cons,j3];omega
theorem qC (a b:List Int):V (a++b)=V a+B a.length*V b:=by
 induction a with
 | nil=>simp [V,B]
 | cons x a ih =>
  rw [List.cons_append,ib,ib,List.length_cons,j3,ih]
  grind
theorem NS (n:Nat):V (List.replicate n 0)=0:=by
 induction n with
 | zero=>rfl
 | succ n ih=>rw [List.replicate_succ,ib,ih];rfl
theorem qT {l:List Int} {n:Nat} {x y:Int} (h:l[n]? = some y):V (l.set n x)=V l+(x-y)*B n:=by
 induction l generalizing n with
 | nil=>simp at h
 | cons z l ih =>
  cases n with
  | zero =>
   simp at h
   subst h
   rw [List.set_cons_zero,ib,ib]
   simp [B]
   omega
  | succ n =>
   rw [List.set_cons_succ,ib,ib,ih (by simpa using h),j3]
   grind
theorem oI {l:List Int} {n:Nat} (h:n≤l.length):V l=V (l.take n)+B n*V (l.drop n):=by
 have:=qC (l.take n) (l.drop n)
 rw [List.take_append_drop] at this
 rw [this,List.length_take,Nat.min_eq_left h]
theorem mB {l:List Int} {n:Nat} {x:Int} (h:l[n]? = some x):V (l.take (n+1))=V (l.take n)+B n*x:=by
 have bb:=dt h
 have:l.take (n+1)=l.take n++[x]:=by
  rw [List.take_add_one,h];rfl
 rw [this,qC,List.length_take,Nat.min_eq_left (by omega)]
 simp [V]
theorem MP {α:Type} {l:List α} {n:Nat} {x:α} (h:l[n]? = some x):l.drop n=x::l.drop (n+1):=by
 have bb:=dt h
 rw [List.getElem?_eq_getElem bb] at h
 rw [List.drop_eq_getElem_cons bb]
 simp at h
 rw [h]
theorem ki {l:List Int} {n:Nat} {x:Int} (h:l[n]? = some x):V (l.drop n)=x+1000000000*V (l.drop (n+1)):=by
 rw [MP h,ib]
def da (l:List Int):Prop:=b3 l∧ ∀x,l.getLast? = some x→x≠0
theorem da.Q5 {l:List Int} (h:da l):b3 l:=h.1
theorem da.nil:da []:=⟨b3.nil,fun _ h=>by simp at h⟩
theorem da.tail {x:Int} {l:List Int} (h:da (x::l)):da l:=⟨h.1.tail,fun y aP=>h.2 y (by
 cases l with
 | nil=>simp at aP
 | cons z l=>simpa using aP)⟩
theorem lJ {l:List Int} (h:da l) (aK:l≠[]):0<V l:=by
 induction l with
 | nil=>exact absurd rfl aK
 | cons x l ih =>
  have h1:=h.1.head
  by_cases R:l=[]
  ·subst R
   have:=h.2 x (by simp)
   simp [V]
   omega
  ·have:=ih h.tail R
   rw [ib]
   omega
theorem wE {l:List Int} (h:da l) (aK:l≠[]):B (l.length-1)≤V l:=by
 induction l with
 | nil=>exact absurd rfl aK
 | cons x l ih =>
  have h1:=h.1.head
  by_cases R:l=[]
  ·subst R
   have:=h.2 x (by simp)
   simp [V,B]
   omega
  ·have ai:=ih h.tail R
   have ax:(x::l).length-1=(l.length-1)+1:=by
    have:=List.length_pos_iff.mpr R
    simp
    omega
   rw [ib,ax,j3]
   omega
def nT (n:Nat):List Int:=if h:n=0 then [] else ((n % 1000000000:Nat):Int)::nT (n / 1000000000)
decreasing_by exact Nat.div_lt_self (Nat.pos_of_ne_zero h) (by decide)
def L (n:Int):List Int:=nT n.toNat
theorem FK (n:Nat):da (nT n)∧V (nT n)=n:=by
 induction n using Nat.strongRecOn with
 | ind n ih =>
  rw [nT]
  by_cases h:n=0
  ·subst h
   simp [V,da.nil]
  ·rw [dif_neg h]
   obtain ⟨h1,R⟩:=ih (n / 1000000000) (Nat.div_lt_self (Nat.pos_of_ne_zero h) (by decide))
   refine ⟨⟨b3.cons (by omega) h1.1,fun x ad=> ?_⟩,?_⟩
   ·by_cases ai:nT (n / 1000000000)=[]
    ·rw [ai] at ad R
     simp [V] at ad R
     omega
    ·refine h1.2 x ?_
     cases ax:nT (n / 1000000000) with
     | nil=>exact absurd ax ai
     | cons z l=>rw [ax] at ad;simpa using ad
   ·rw [ib,R]
    omega
theorem hU (n:Int):da (L n):=(FK _).1
theorem mh (n:Int):b3 (L n):=(hU n).1
theorem e8 {n:Int} (h:0≤n):V (L n)=n:=by
 rw [L,(FK _).2];omega
theorem NT {a b:List Int} (bL:da a) (aW:da b) (h:V a=V b):a=b:=by
 induction a generalizing b with
 | nil =>
  by_cases h1:b=[]
  ·exact h1.symm
  ·have:=lJ aW h1
   simp [V] at h
   omega
 | cons x a ih =>
  cases b with
  | nil =>
   have:=lJ bL (by simp)
   rw [h] at this
   simp [V] at this
  | cons y b =>
   have h1:=bL.1.head
   have R:=aW.1.head
   rw [ib,ib] at h
   have ai:x=y:=by omega
   have ax:=ih bL.tail aW.tail (by omega)
   rw [ai,ax]
theorem mO {l:List Int} (h:da l):L (V l)=l:=NT (hU _) h (e8 (hQ h.1))
theorem oW {l:List Int} {n:Int} (h:da l) (aS:V l=n):l=L n:=by rw [← aS,mO h]
theorem oL:L 0=[]:=by rw [L,nT];rfl
theorem F0 {n:Int} (h:n≤0):L n=[]:=by
 rw [L,Int.toNat_eq_zero.mpr h]
 exact oL
theorem iN {n:Int} {k:Nat} (h:0≤n):(L n).length≤k↔n<B k:=by
 constructor
 ·intro h1
  have R:=jO (mh n)
  rw [e8 h] at R
  have:=qM h1
  omega
 ·intro h1
  by_cases R:L n=[]
  ·rw [R];simp
  ·have ai:=wE (hU n) R
   rw [e8 h] at ai
   have ax:=List.length_pos_iff.mpr R
   apply Nat.le_of_not_lt
   intro aM
   have:=qM (m:=k) (n:=(L n).length-1) (by omega)
   omega
theorem da.len {l:List Int} (h:da l) {k:Nat}:l.length≤k↔V l<B k:=by
 have:=iN (n:=V l) (k:=k) (hQ h.1)
 rwa [mO h] at this
theorem A6 {n:Int}:L n=[]↔n≤0:=by
 constructor
 ·intro h
  apply Int.not_lt.mp
  intro h1
  have:=e8 (n:=n) (by omega)
  rw [h] at this
  simp [V] at this
  omega
 ·exact F0
theorem da.pos {l:List Int} (h:da l):0<V l↔l≠[]:=by
 constructor
 ·intro h1 R
  subst R
  simp [V] at h1
 ·exact lJ h
theorem da.AN {l:List Int} (aK:b3 l) (n:Nat) (h : ∀x,l[n]? = some x→x≠0):da (l.take (n+1))∨l.length≤n:=by
 by_cases bb:n<l.length
 ·refine .inl ⟨aK.take _,fun x ad=>h x ?_⟩
  rw [List.take_add_one,List.getElem?_eq_getElem bb,show (some l[n]).toList=[l[n]] from rfl,List.getLast?_append] at ad
  rw [List.getElem?_eq_getElem bb]
  exact ad
 ·exact .inr (by omega)
theorem da.one {x:Int} (h:0<x∧x<1000000000):da [x]:=⟨b3.cons (by omega) b3.nil,fun y aP=>by
 simp at aP
 omega⟩
theorem AO {x:Int} (h:0<x∧x<1000000000):L x=[x]:=(oW (da.one h) (by simp [V])).symm
def kX (a b:Int):Int:=if a<b then -1 else if b<a then 1 else 0
theorem vQ {a b:List Int} (bL:da a) (aW:da b) (h:a.length<b.length):V a<V b:=by
 have h1:=jO bL.1
 have h3:b≠[]:=by intro R;rw [R] at h;simp at h
 have R:=wE aW h3
 have:=qM (m:=a.length) (n:=b.length-1) (by omega)
 omega
theorem Fq {a b:List Int} (bL:b3 a) (aW:b3 b) {n:Nat} {x y:Int} (ad:a[n]? = some x) (aP:b[n]? = some y) (h:V (a.drop (n+1))=V (b.drop (n+1))) (Q6:x<y):V a<V b:=by
 have h1:=oI (Nat.le_of_lt (dt ad))
 have R:=oI (Nat.le_of_lt (dt aP))
 rw [ki ad] at h1
 rw [ki aP,← h] at R
 have ai:=jO (bL.take n)
 have ax:=hQ (aW.take n)
 rw [List.length_take,Nat.min_eq_left (Nat.le_of_lt (dt ad))] at ai
 have aM:=mg n
 rw [h1,R]
 generalize V (a.drop (n+1))=t at *
 generalize V (a.take n)=p at *
 generalize V (b.take n)=q at *
 generalize B n=w at *
 have:w*(x+1000000000*t)+w≤w*(y+1000000000*t):=by
  have ba:w*(x+1000000000*t+1)≤w*(y+1000000000*t):=Int.mul_le_mul_of_nonneg_left (by omega) (by omega)
  rw [Int.mul_add,Int.mul_one] at ba
  exact ba
 omega
end Go.VL
namespace Go.VL
set_option linter.unusedVariables false
set_option linter.unusedSimpArgs false
open Go
theorem E3 {α:Type} {bA:List α} {p:α→Bool} {n:Nat} {y:α} (aP:bA[n]? = some y) (h:(bA.take n).all p=true) (ak:p y=true):(bA.take (n+1)).all p=true:=by
 rw [List.take_add_one,aP,List.all_append,h]
 simp [ak]
theorem FL {α:Type} {bA:List α} {p:α→Bool} {n:Nat} {y:α} (aP:bA[n]? = some y) (ak:p y=false):bA.all p=false:=by
 rw [List.all_eq_false]
 exact ⟨y,List.mem_of_getElem? aP,by simp [ak]⟩
theorem Qo {α β:Type} {f:Int×List β→Option ((Int×List β)⊕(List β⊕Unit))} (bA:List α) (ok:α→Bool) (h:α→β)
 (cB : ∀(n:Nat) y row,bA[n]? = some y→row.length=n→f ((n:Int),row)=some (if ok y then .inl (((n+1:Nat):Int),row++[h y]) else .inr (.inr ())))
 (he : ∀row,f ((bA.length:Int),row)=some (.inr (.inl row))):iter f (0,[])=some (if bA.all ok then .inl (bA.map h) else .inr ()):=by
 obtain ⟨r,ao,rfl⟩:=fN (f:=f) (cQ:=fun w=> ∃n:Nat,w.1=n∧n≤bA.length∧w.2=(bA.take n).map h∧(bA.take n).all ok=true) (m:=fun w=>bA.length-w.1.toNat) (fun r=>r=if bA.all ok then .inl (bA.map h) else .inr ()) (by
  rintro ⟨i,row⟩ ⟨n,h1,bb,R,ai⟩
  simp only at h1 R
  subst h1 R
  by_cases aK:n=bA.length
  ·subst aK
   refine .inr ⟨_,he _,?_⟩
   rw [List.take_length] at ai ⊢
   rw [ai]
   rfl
  ·have aP:=List.getElem?_eq_getElem (show n<bA.length by omega)
   have cF:((bA.take n).map h).length=n:=by simp;omega
   rw [cB n _ _ aP cF]
   by_cases ag:ok bA[n]=true
   ·refine .inl ⟨_,by rw [if_pos ag],⟨n+1,rfl,by omega,?_,E3 aP ai ag⟩,by simp;omega⟩
    simp only
    rw [List.take_add_one,aP,show (some bA[n]).toList=[bA[n]] from rfl,List.map_append]
    rfl
   ·refine .inr ⟨_,by rw [if_neg ag],?_⟩
    rw [FL aP (by simpa using ag)]
    rfl) (0,[]) ⟨0,rfl,by omega,by simp,by simp⟩
 exact ao
theorem L7 {α β:Type} {f:Int×List β→Option ((Int×List β)⊕(List β⊕Unit))} (bA:List α) (ok:α→Bool) (h:α→β) (an:List β) (h0:an.length=bA.length)
 (cB : ∀(n:Nat) y row,bA[n]? = some y→row.length=bA.length→f ((n:Int),row)=some (if ok y then .inl (((n+1:Nat):Int),row.set n (h y)) else .inr (.inr ())))
 (he : ∀row,f ((bA.length:Int),row)=some (.inr (.inl row))):iter f (0,an)=some (if bA.all ok then .inl (bA.map h) else .inr ()):=by
 obtain ⟨r,ao,rfl⟩:=fN (f:=f) (cQ:=fun w=> ∃n:Nat,w.1=n∧n≤bA.length∧w.2.length=bA.length∧w.2.take n=(bA.take n).map h∧(bA.take n).all ok=true) (m:=fun w=>bA.length-w.1.toNat) (fun r=>r=if bA.all ok then .inl (bA.map h) else .inr ()) (by
  rintro ⟨i,row⟩ ⟨n,h1,bb,hlen,R,ai⟩
  simp only at h1 hlen R
  subst h1
  by_cases aK:n=bA.length
  ·subst aK
   refine .inr ⟨_,he _,?_⟩
   rw [List.take_length] at ai R
   rw [List.take_of_length_le (by omega)] at R
   rw [ai,R]
   rfl
  ·have aP:=List.getElem?_eq_getElem (show n<bA.length by omega)
   rw [cB n _ _ aP hlen]
   by_cases ag:ok bA[n]=true
   ·refine .inl ⟨_,by rw [if_pos ag],⟨n+1,rfl,by omega,by simpa using hlen,?_,E3 aP ai ag⟩,by simp;omega⟩
    simp only
    rw [List.take_add_one,List.take_add_one,aP,List.getElem?_set,if_pos rfl,if_pos (by omega),List.take_set_of_le (by omega),R,show (some bA[n]).toList=[bA[n]] from rfl,List.map_append]
    rfl
   ·refine .inr ⟨_,by rw [if_neg ag],?_⟩
    rw [FL aP (by simpa using ag)]
    rfl) (0,an) ⟨0,rfl,by omega,h0,by simp,by simp⟩
 exact ao
theorem L8 {α:Type} {P:Nat→α→Prop} : ∀(n:Nat),(∀k,k<n→ ∃y,P k y)→ ∃bA:List α,bA.length=n∧ ∀k y,bA[k]? = some y→P k y
 | 0,_=>⟨[],rfl,fun k y h=>by simp at h⟩
 | n+1,h=>by
  obtain ⟨bA,h1,R⟩:=L8 n (fun k bl=>h k (by omega))
  obtain ⟨y,aP⟩:=h n (by omega)
  refine ⟨bA++[y],by simp [h1],fun k z cq=> ?_⟩
  by_cases bl:k<bA.length
  ·rw [List.getElem?_append_left bl] at cq
   exact R k z cq
  ·rw [List.getElem?_append_right (by omega)] at cq
   have:k-bA.length=0:=by
    have:=dt cq
    simp at this
    omega
   rw [this] at cq
   simp at cq
   have:k=n:=by omega
   subst this
   rw [← cq]
   exact aP
end Go.VL
namespace Go.VL
set_option linter.unusedVariables false
set_option linter.unusedSimpArgs false
open Go
theorem Qg {α fH jn β:Type} {f:jn→Option (jn⊕β)} (cW:Nat→fH→jn) (g:fH→α→fH) (e:fH→β) (cQ:Nat→fH→Prop) (bA:List α)
 (h : ∀n s x,cQ n s→bA[n]? = some x→f (cW n s)=some (.inl (cW (n+1) (g s x)))∧cQ (n+1) (g s x))
 (he : ∀s,cQ bA.length s→f (cW bA.length s)=some (.inr (e s))) (gh:fH) (h0:cQ 0 gh):iter f (cW 0 gh)=some (e (bA.foldl g gh))∧cQ bA.length (bA.foldl g gh):=by
 have key : ∀(xs:List α) (n:Nat) (s:fH),bA.drop n=xs→n≤bA.length→cQ n s→iter f (cW n s)=some (e (xs.foldl g s))∧cQ bA.length (xs.foldl g s):=by
  intro xs
  induction xs with
  | nil =>
   intro n s a9 bb eB
   have:n=bA.length:=by
    have:=congrArg List.length a9
    simp at this
    omega
   subst this
   rw [iter,he s eB]
   exact ⟨rfl,eB⟩
  | cons x xs ih =>
   intro n s a9 bb eB
   have ad:bA[n]? = some x:=by
    have:=congrArg (·[0]?) a9
    simpa using this
   have cG:=dt ad
   obtain ⟨h1,R⟩:=h n s x eB ad
   rw [iter,h1]
   exact ih (n+1) (g s x) (by rw [← List.drop_drop,a9];rfl) (by omega) R
 exact key bA 0 gh rfl (Nat.zero_le _) h0
theorem Qh {Hk n k:Nat} (h:(List.range Hk)[n]? = some k):n=k∧k<Hk:=by
 have bb:=dt h
 rw [List.length_range] at bb
 rw [List.getElem?_range bb] at h
 have:=Option.some.inj h
 omega
end Go.VL
namespace Go.VL
set_option linter.unusedVariables false
set_option linter.unusedSimpArgs false
open Go
section
variable {α β bH:Type}
theorem bW {I:Option β} {f:β→Option α} {x:β} {r:Option α} (h:I=some x) (k:f x=r):(I >>= f)=r:=by rw [h];exact k
theorem hr {p:Prop} [Decidable p] {x r:Option α} (h:p) (k:x=r):(if p then x else none)=r:=by rw [if_pos h];exact k
theorem e3 {b:Bool} {x y r:α} (h:b=true) (k:x=r):(if b=true then x else y)=r:=by rw [if_pos h];exact k
theorem gi {b:Bool} {x y r:α} (h:b=false) (k:y=r):(if b=true then x else y)=r:=by rw [if_neg (by rw [h];exact Bool.false_ne_true)];exact k
theorem jk {p:Prop} [Decidable p] {x y r:α} (h:p) (k:x=r):(if decide p=true then x else y)=r:=by rw [if_pos (decide_eq_true h)];exact k
theorem jZ {p:Prop} [Decidable p] {x y r:α} (h : ¬p) (k:y=r):(if decide p=true then x else y)=r:=by rw [if_neg (by simpa using h)];exact k
theorem Hg {b:Bool} {x y r:α} (h1:b=true→x=r) (R:b=false→y=r):(if b=true then x else y)=r:=by
 cases b
 ·exact R rfl
 ·exact h1 rfl
theorem RA {I:Option bH} {x r:α} {f:bH→α} (h:I=none) (k:x=r):I.elim x f=r:=by rw [h];exact k
theorem RB {I:Option bH} {y:bH} {x r:α} {f:bH→α} (h:I=some y) (k:f y=r):I.elim x f=r:=by rw [h];exact k
theorem gt {l:List α} {i:Int} {n:Nat} {x:α} (e:i=n) (h:l[n]? = some x):l[i.toNat]? = some x:=by rw [e,Int.toNat_natCast];exact h
theorem Q7 {l:List α} {i:Int} {n:Nat} (e:i=n) (h:n<l.length):0≤i∧i<(l.length:Nat):=by omega
theorem BU {a b:Int} (h:a=b):(a == b)=true:=by simp [h]
theorem GP {a b:Int} (h:a≠b):(a == b)=false:=by simp [h]
theorem GQ {a b:Int} (h:a≠b):(a != b)=true:=by simp [h]
theorem mr {a b:Int} (h:a=b):(a != b)=false:=by simp [h]
theorem AF {fH jn:Type} {f:jn→Option (jn⊕β)} (cW:Nat→fH→jn) (N:Nat) (cQ:Nat→fH→Prop) (Q:β→Prop)
 (h : ∀n,n<N→ ∀s,cQ n s→(∃bh,f (cW n s)=some (.inl (cW (n+1) bh))∧cQ (n+1) bh)∨(∃r,f (cW n s)=some (.inr r)∧Q r))
 (he : ∀s,cQ N s→ ∃r,f (cW N s)=some (.inr r)∧Q r) (gh:fH) (h0:cQ 0 gh) : ∃r,iter f (cW 0 gh)=some r∧Q r:=by
 have key : ∀(d n:Nat) (s:fH),n+d=N→cQ n s→ ∃r,iter f (cW n s)=some r∧Q r:=by
  intro d
  induction d with
  | zero =>
   intro n s bb eB
   obtain rfl:n=N:=by omega
   obtain ⟨r,h1,R⟩:=he s eB
   exact ⟨r,by rw [iter,h1];rfl,R⟩
  | succ d ih =>
   intro n s bb eB
   rcases h n (by omega) s eB with ⟨bh,h1,R⟩|⟨r,h1,R⟩
   ·obtain ⟨r,ai,ax⟩:=ih (n+1) bh (by omega) R
    exact ⟨r,by rw [iter,h1];exact ai,ax⟩
   ·exact ⟨r,by rw [iter,h1];rfl,R⟩
 exact key N 0 gh (by omega) h0
theorem qw {fH jn:Type} {f:jn→Option (jn⊕β)} (cW:Nat→fH→jn) (N:Nat) (cQ:Nat→fH→Prop) (e:fH→β)
 (h : ∀n,n<N→ ∀s,cQ n s→ ∃bh,f (cW n s)=some (.inl (cW (n+1) bh))∧cQ (n+1) bh)
 (he : ∀s,cQ N s→f (cW N s)=some (.inr (e s))) (gh:fH) (h0:cQ 0 gh) : ∃s,iter f (cW 0 gh)=some (e s)∧cQ N s:=by
 obtain ⟨r,h1,s,rfl,R⟩:=AF cW N cQ (fun r=> ∃s,r=e s∧cQ N s) (fun n bb s eB=> .inl (h n bb s eB)) (fun s eB=>⟨_,he s eB,s,rfl,eB⟩) gh h0
 exact ⟨s,h1,R⟩
end
end Go.VL
namespace Go.Proofs.YtmmbmjbpfklkcabGreat
set_option linter.unusedVariables false
set_option linter.unusedSimpArgs false
open Go Go.VL
structure aB where
 cu:ByteArray
 c5:Int
 cJ:Int
 cf:Bool
 deriving DecidableEq
structure aN where
 dg:Int
 c0:Int
 dq:Int
 deriving DecidableEq
structure cX where
 bs:(List aB)
 bZ:(List aN)
 deriving DecidableEq
structure hi where
 fo:Bool
 cn:(List Int)
 deriving DecidableEq
structure cD where
 ch:hi
 cv:(List Int)
 deriving DecidableEq
structure et where
 ty:hi
 Bl:(List Int)
 deriving DecidableEq
def au (x:aB):List av:=[.s x.cu,.n .i64 x.c5,.n .i64 x.cJ,.b x.cf]
theorem h9 : ∀x,∀v∈au x,v.gy=true:=by
 intro x v aS
 simp only [au,List.mem_cons,List.not_mem_nil,or_false] at aS
 rcases aS with rfl|rfl|rfl|rfl<;>rfl
theorem kz : ∀x,∀v∈au x,a1 v:=fun x=>(lf (.s _) (lf (.n _ _) (lf (.n _ _) (lf (.b _) vP))))
theorem eh : ∀x,∀v∈au x,Pure v:=by
 intro x v aS
 simp only [au,List.mem_cons,List.not_mem_nil,or_false] at aS
 rcases aS with rfl|rfl|rfl|rfl
 ·exact .s _
 ·exact .n _ _
 ·exact .n _ _
 ·exact .b _
def ay (x:aN):List av:=[.n .i64 x.dg,.n .i64 x.c0,.n .i64 x.dq]
theorem h8 : ∀x,∀v∈ay x,v.gy=true:=by
 intro x v aS
 simp only [ay,List.mem_cons,List.not_mem_nil,or_false] at aS
 rcases aS with rfl|rfl|rfl<;>rfl
theorem j1 : ∀x,∀v∈ay x,a1 v:=fun x=>(lf (.n _ _) (lf (.n _ _) (lf (.n _ _) vP)))
theorem dl : ∀x,∀v∈ay x,Pure v:=by
 intro x v aS
 simp only [ay,List.mem_cons,List.not_mem_nil,or_false] at aS
 rcases aS with rfl|rfl|rfl
 ·exact .n _ _
 ·exact .n _ _
 ·exact .n _ _
def so (x:cX):List av:=[.isl 4 (x.bs.map au),.isl 3 (x.bZ.map ay)]
theorem P4 : ∀x,∀v∈so x,v.gy=true:=by
 intro x v aS
 simp only [so,List.mem_cons,List.not_mem_nil,or_false] at aS
 rcases aS with rfl|rfl<;>rfl
theorem Dq : ∀x,∀v∈so x,Pure v:=by
 intro x v aS
 simp only [so,List.mem_cons,List.not_mem_nil,or_false] at aS
 rcases aS with rfl|rfl
 ·exact .isl (cM eh _)
 ·exact .isl (cM dl _)
def qD (x:hi):List av:=[.b x.fo,.isl 1 (x.cn.map U)]
theorem P9 : ∀x,∀v∈qD x,v.gy=true:=by
 intro x v aS
 simp only [qD,List.mem_cons,List.not_mem_nil,or_false] at aS
 rcases aS with rfl|rfl<;>rfl
theorem Ky : ∀x,∀v∈qD x,Pure v:=by
 intro x v aS
 simp only [qD,List.mem_cons,List.not_mem_nil,or_false] at aS
 rcases aS with rfl|rfl
 ·exact .b _
 ·exact .isl (cM bG _)
def eTRat (x:cD):List av:=[.b x.ch.fo,.isl 1 (x.ch.cn.map U),.isl 1 (x.cv.map U)]
theorem Qp : ∀x,∀v∈eTRat x,v.gy=true:=by
 intro x v aS
 simp only [eTRat,List.mem_cons,List.not_mem_nil,or_false] at aS
 rcases aS with rfl|rfl|rfl<;>rfl
theorem ld : ∀x,∀v∈eTRat x,Pure v:=by
 intro x v aS
 simp only [eTRat,List.mem_cons,List.not_mem_nil,or_false] at aS
 rcases aS with rfl|rfl|rfl
 ·exact .b _
 ·exact .isl (cM bG _)
 ·exact .isl (cM bG _)
def eK (x:et):List av:=[.b x.ty.fo,.isl 1 (x.ty.cn.map U),.isl 1 (x.Bl.map U)]
theorem Qa : ∀x,∀v∈eK x,v.gy=true:=by
 intro x v aS
 simp only [eK,List.mem_cons,List.not_mem_nil,or_false] at aS
 rcases aS with rfl|rfl|rfl<;>rfl
theorem rZ : ∀x,∀v∈eK x,Pure v:=by
 intro x v aS
 simp only [eK,List.mem_cons,List.not_mem_nil,or_false] at aS
 rcases aS with rfl|rfl|rfl
 ·exact .b _
 ·exact .isl (cM bG _)
 ·exact .isl (cM bG _)
structure ed where
 fo:Bool
 cn:gv
def oy (b8 c:Nat) (x:ed):List av:=[.b x.fo,jj b8 c 1 x.cn]
theorem P6 {aY:Nat→Option Nat} {b8 h2 c:Nat} (bK:aY b8=some h2) (x:ed):(oy b8 c x).map (jd aY)=oy h2 c x:=by
 simp only [oy,List.map_cons,List.map_nil,A5 bK];rfl
theorem P7 {aA:el} {b8 h2 c cr:Nat} (hm : ∀k,aA h2 (k+cr)=some (b8,k+c)) (x:ed):ny aA (oy b8 c x) (oy h2 cr x):=⟨FJ rfl,wh hm _,trivial⟩
theorem P8 (b8 c:Nat) : ∀x,∀v∈oy b8 c x,a1 v:=fun x=>(lf (.b _) (lf (wi _ _ _ _) vP))
def Ly (P:(List (List Int))) (x:ed):hi:=⟨x.fo,lT P x.cn⟩
def Eo (P:(List (List Int))) (x:ed):Bool:=nx P x.cn
theorem Qb {bC:dV} {P:(List (List Int))} {raw:List ae} {b8 c:Nat} {ir:List ae} {bq:dV→Bool} (e:raw=P.map (cd bC 1 U)) (a3:ir.length=c) (bl:bC≠ .gone) (bL:bq bC=true) {x:ed} (h:Eo P x=true):pb b8 (ir++raw) bq (oy b8 c x) (qD (Ly P x)):=by
 simp only [Eo,Bool.and_eq_true] at h
 have h0:=h
 exact ⟨FH rfl,wk e bG a3 bl bL h0,trivial⟩
structure cN where
 ch:ed
 cv:gv
def a4 (b8 c:Nat) (x:cN):List av:=[.b x.ch.fo,jj b8 c 1 x.ch.cn,jj b8 c 1 x.cv]
theorem hB {aY:Nat→Option Nat} {b8 h2 c:Nat} (bK:aY b8=some h2) (x:cN):(a4 b8 c x).map (jd aY)=a4 h2 c x:=by
 simp only [a4,List.map_cons,List.map_nil,A5 bK];rfl
theorem Qi {aA:el} {b8 h2 c cr:Nat} (hm : ∀k,aA h2 (k+cr)=some (b8,k+c)) (x:cN):ny aA (a4 b8 c x) (a4 h2 cr x):=⟨FJ rfl,wh hm _,wh hm _,trivial⟩
theorem nj (b8 c:Nat) : ∀x,∀v∈a4 b8 c x,a1 v:=fun x=>(lf (.b _) (lf (wi _ _ _ _) (lf (wi _ _ _ _) vP)))
def fw (P:(List (List Int))) (x:cN):cD:=⟨⟨x.ch.fo,lT P x.ch.cn⟩,lT P x.cv⟩
def sW (P:(List (List Int))) (x:cN):Bool:=nx P x.ch.cn && nx P x.cv
theorem lC {bC:dV} {P:(List (List Int))} {raw:List ae} {b8 c:Nat} {ir:List ae} {bq:dV→Bool} (e:raw=P.map (cd bC 1 U)) (a3:ir.length=c) (bl:bC≠ .gone) (bL:bq bC=true) {x:cN} (h:sW P x=true):pb b8 (ir++raw) bq (a4 b8 c x) (eTRat (fw P x)):=by
 simp only [sW,Bool.and_eq_true] at h
 obtain ⟨h0,h1⟩:=h
 exact ⟨FH rfl,wk e bG a3 bl bL h0,wk e bG a3 bl bL h1,trivial⟩
noncomputable abbrev a2:Program:=Go.Proofs.Tryz.prog
theorem kW:a2.follows .mixedOrders=true:=Go.Proofs.Tryz.checked.mixed
theorem bi {N m:Nat} {c:Code} {E:List (Nat×av)} {rows:List (List ae)} (tape:List bx) {e:Exit} {s:S} {ap:List Prop} (aX:b2 ap)
 (h:wY a2 N m c tape (c6 E rows) rows.length=some (e,s,ap):=by kernel_rfl):gb a2 N m c e (c6 E rows) s:=EI kW h aX (oE _ _)
theorem a8 {f:FuncId} {args:List av} {r:av} {ap:List Prop} (tape:List bx) (aX:b2 ap) (dE:h5:=ii)
 (h:tx a2 f args [] tape [] [] dE=some (r,[],ap):=by kernel_rfl):Con a2 f args [] r []:=L4 kW h aX
theorem gQ {f:FuncId} {args:List av} {T gf:List (List ae)} {r:av} {ap:List Prop} (tape:List bx) (aA:List Nat) (bR:List fA) (aX:b2 ap) (dE:h5:=ii)
 (h:tx a2 f args T tape aA bR dE=some (r,gf,ap):=by kernel_rfl):Con a2 f args T r gf:=E0 kW h aX
def Fs (x:aB):Prop:=(fun s=>s.size≤maxLen) x.cu∧lO x.c5∧lO x.cJ∧(fun _=>True) x.cf
theorem JW (w:World):kl Go.Proofs.Tryz.prog w 76 au Fs where
 pure:=eh
 size:=fun a=>by kernel_rfl
 opens:=fun h=>by
  obtain ⟨aK,bB⟩:=sc Tryz.underlying76 h
  obtain ⟨jX,i0,cb⟩:=kO bB 0 0 1 rfl rfl (by kernel_rfl) (KT Tryz.underlying9 (by kernel_rfl))
  obtain ⟨fb,i1,bI⟩:=kO bB 1 1 1 rfl rfl (by kernel_rfl) (ox Tryz.underlying3 (by kernel_rfl))
  obtain ⟨hd,mW,fX⟩:=kO bB 2 2 1 rfl rfl (by kernel_rfl) (ox Tryz.underlying3 (by kernel_rfl))
  obtain ⟨cw,Cn,kh⟩:=kO bB 3 3 1 rfl rfl (by kernel_rfl) (Em Tryz.underlying4 (by kernel_rfl))
  have bb:Go.Proofs.Tryz.prog.cellsOf 76=4:=by kernel_rfl
  exact ⟨⟨jX,fb,hd,cw⟩,⟨i0,i1,mW,Cn⟩,(f5.aC cb (f5.aC bI (f5.aC fX (f5.aC kh (f5.end_ (by omega)) (by rfl)) (by rfl)) (by rfl)) (by rfl))⟩
def E4 (x:aN):Prop:=lO x.dg∧lO x.c0∧lO x.dq
theorem JC (w:World):kl Go.Proofs.Tryz.prog w 89 ay E4 where
 pure:=dl
 size:=fun a=>by kernel_rfl
 opens:=fun h=>by
  obtain ⟨aK,bB⟩:=sc Tryz.underlying89 h
  obtain ⟨jX,i0,cb⟩:=kO bB 0 0 1 rfl rfl (by kernel_rfl) (ox Tryz.underlying3 (by kernel_rfl))
  obtain ⟨fb,i1,bI⟩:=kO bB 1 1 1 rfl rfl (by kernel_rfl) (ox Tryz.underlying3 (by kernel_rfl))
  obtain ⟨hd,mW,fX⟩:=kO bB 2 2 1 rfl rfl (by kernel_rfl) (ox Tryz.underlying3 (by kernel_rfl))
  have bb:Go.Proofs.Tryz.prog.cellsOf 89=3:=by kernel_rfl
  exact ⟨⟨jX,fb,hd⟩,⟨i0,i1,mW⟩,(f5.aC cb (f5.aC bI (f5.aC fX (f5.end_ (by omega)) (by rfl)) (by rfl)) (by rfl))⟩
def l7 (x:cX):Prop:=(fun l=>l.length≤maxLen∧ ∀x∈l,Fs x) x.bs∧(fun l=>l.length≤maxLen∧ ∀x∈l,E4 x) x.bZ
theorem IW (w:World):kl Go.Proofs.Tryz.prog w 25 so l7 where
 pure:=Dq
 size:=fun a=>by kernel_rfl
 opens:=fun h=>by
  obtain ⟨aK,bB⟩:=sc Tryz.underlying25 h
  obtain ⟨jX,i0,cb⟩:=kO bB 0 0 1 rfl rfl (by kernel_rfl) (sn (sz:=4) Tryz.underlying22 (by kernel_rfl) (by kernel_rfl) (by decide) (JW _))
  obtain ⟨fb,i1,bI⟩:=kO bB 1 1 1 rfl rfl (by kernel_rfl) (sn (sz:=3) Tryz.underlying23 (by kernel_rfl) (by kernel_rfl) (by decide) (JC _))
  have bb:Go.Proofs.Tryz.prog.cellsOf 25=2:=by kernel_rfl
  exact ⟨⟨jX,fb⟩,⟨i0,i1⟩,(f5.aC cb (f5.aC bI (f5.end_ (by omega)) (by rfl)) (by rfl))⟩
def E5 (x:hi):Prop:=(fun _=>True) x.fo∧(fun l=>l.length≤maxLen∧ ∀x∈l,lO x) x.cn
theorem JD (w:World):kl Go.Proofs.Tryz.prog w 48 qD E5 where
 pure:=Ky
 size:=fun a=>by kernel_rfl
 opens:=fun h=>by
  obtain ⟨aK,bB⟩:=sc Tryz.underlying48 h
  obtain ⟨jX,i0,cb⟩:=kO bB 0 0 1 rfl rfl (by kernel_rfl) (Em Tryz.underlying4 (by kernel_rfl))
  obtain ⟨fb,i1,bI⟩:=kO bB 1 1 1 rfl rfl (by kernel_rfl) (sn (sz:=1) Tryz.underlying46 (by kernel_rfl) (by kernel_rfl) (by decide) (ox Tryz.underlying3 (by kernel_rfl)))
  have bb:Go.Proofs.Tryz.prog.cellsOf 48=2:=by kernel_rfl
  exact ⟨⟨jX,fb⟩,⟨i0,i1⟩,(f5.aC cb (f5.aC bI (f5.end_ (by omega)) (by rfl)) (by rfl))⟩
def wo (x:cD):Prop:=E5 x.ch∧(fun l=>l.length≤maxLen∧ ∀x∈l,lO x) x.cv
theorem Kz (w:World):kl Go.Proofs.Tryz.prog w 50 eTRat wo where
 pure:=ld
 size:=fun a=>by kernel_rfl
 opens:=fun h=>by
  obtain ⟨aK,bB⟩:=sc Tryz.underlying50 h
  obtain ⟨jX,i0,cb⟩:=kO bB 0 0 2 rfl rfl (by kernel_rfl) (JD _)
  obtain ⟨fb,i1,bI⟩:=kO bB 1 2 1 rfl rfl (by kernel_rfl) (sn (sz:=1) Tryz.underlying46 (by kernel_rfl) (by kernel_rfl) (by decide) (ox Tryz.underlying3 (by kernel_rfl)))
  have bb:Go.Proofs.Tryz.prog.cellsOf 50=3:=by kernel_rfl
  exact ⟨⟨jX,fb⟩,⟨i0,i1⟩,(f5.aC cb (f5.aC bI (f5.end_ (by omega)) (by rfl)) (by rfl))⟩
end Go.Proofs.YtmmbmjbpfklkcabGreat
