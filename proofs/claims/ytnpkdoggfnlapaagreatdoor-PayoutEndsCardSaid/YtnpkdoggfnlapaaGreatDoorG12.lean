/- Parts SxZk SxZl SxZm SxZn SxZo SxZp SxZh SxZt. -/
import Derived.Test.YtnpkdoggfnlapaaGreatDoorG11
import Derived.Test.YtnpkdoggfnlapaaGreatDoorG09
import Derived.Test.YtnpkdoggfnlapaaGreatDoorG06
import Derived.Shelf.Spec.SlicesInsertGrow
import Derived.Lib.LazyBuf
import Derived.Deep.Upon
import Derived.Lib.SmallJoins
import Derived.Lib.LaidTab
set_option linter.unusedSimpArgs false
set_option linter.unusedVariables false
namespace Go.Sx
open Go.RowKit
def Boxed (p:Nat) (l:List Chunk):List SV→List AC→Prop
 | [],[]=>True
 | s::r,.raw u::g=>s = .raw u∧Boxed p l r g
 | s::r,.row sz k f::g=>((s = .raw (.slice none 0 0)∧k=0)∨∃ j e n,s = .ins p l.length j k∧l[j]? = some (.vec e sz n f)∧k≤n∧n=k)∧Boxed p l r g
 | _,_=>False
theorem Wv {β:Nat→Loc} {ow:Nat→Option Nat} {w:World} {p j k e sz n:Nat} {l:List Chunk} {f:Nat→List Value} (hp:Holds β ow w p (.abs (mK l))) (hj:l[j]? = some (.vec e sz n f)) (hk:k≤n) {v:Value} (hv:(SV.ins p l.length j k).rel β v) :
  ∃ pr,AC.at w (fun b=>ow b=some p) (.row sz k f) pr v:=by
 obtain ⟨h0,h1,β0,ow0,k1,k2,k3,k4,k5,k6⟩:=hp
 have hjl:j<l.length:=(List.getElem?_eq_some_iff.1 hj).1
 have hh:=k6 j _ hj
 have hb:=k3 j hjl
 have e0:(Loc.mk (β p).blk 0 (subs (β p) 0) false fun j=>subs (β p) (j + 1)).inner l.length j=(β p).inner l.length j:=rfl
 rw [e0] at hb
 simp only [SV.rel] at hv
 simp only [Holds] at hh
 rw [hb] at hh
 by_cases hn:((β p).inner l.length j).nil=true
 ·rw [if_pos hn] at hv
  refine ⟨(none,0),?_,.inl ⟨rfl,hv.2⟩⟩
  rw [hv.1,hv.2]
 ·rw [if_neg hn] at hv hh
  obtain ⟨a,v1,v2,v3⟩:=hv
  obtain ⟨m1,m2,m3,m4,arr,m5,m6,m7⟩:=hh
  refine ⟨(some a,((β p).inner l.length j).cap),v1,.inr ⟨a,((β p).inner l.length j).blk,0,rfl,v2,fun h=>by rw [v3 h];simp [Loc.addr,m1],(k2 _).2 (by rw [m2];simp),fun i hi => ?_⟩⟩
  obtain ⟨q1,q2⟩:=m7 i (by omega)
  refine ⟨q1,fun q u hu => ?_⟩
  rw [Nat.zero_add,cell_of_row w _ _ arr e _ m5]
  exact q2 q u hu
theorem rW {β:Nat→Loc} {ow:Nat→Option Nat} {w:World} {p:Nat} {l:List Chunk} (hp:Holds β ow w p (.abs (mK l))):∀ {cs:List SV} {G:List AC} {vs:List Value},Boxed p l cs G→bg β cs vs→G.length=vs.length∧∀ (j:Nat) (x:AC),G[j]? = some x→∃ pr v,vs[j]? = some v∧AC.at w (fun b=>ow b=some p) x pr v
 | [],[],vs,_,hv=>by
  simp only [bg] at hv
  subst hv
  exact ⟨rfl,fun j x h=>by simp at h⟩
 | s::r,.raw u::g,vs,hb,hv=>by
  obtain ⟨v,t,rfl,h1,h2⟩:=hv
  obtain ⟨rfl,hb⟩:=hb
  obtain ⟨e1,e2⟩:=rW hp hb h2
  refine ⟨by simp [e1],fun j x hx => ?_⟩
  cases j with
  | zero =>
   simp only [List.getElem?_cons_zero,Option.some.injEq] at hx
   subst hx
   exact ⟨(none,0),v,rfl,h1⟩
  | succ j=>simpa using e2 j x (by simpa using hx)
 | s::r,.row sz k f::g,vs,hb,hv=>by
  obtain ⟨v,t,rfl,h1,h2⟩:=hv
  obtain ⟨hb0,hb⟩:=hb
  obtain ⟨e1,e2⟩:=rW hp hb h2
  refine ⟨by simp [e1],fun j x hx => ?_⟩
  cases j with
  | zero =>
   simp only [List.getElem?_cons_zero,Option.some.injEq] at hx
   subst hx
   rcases hb0 with ⟨rfl,rfl⟩ |⟨j0,e,n,rfl,hj,hk,_⟩
   ·exact ⟨(none,0),v,rfl,h1,.inl ⟨rfl,rfl⟩⟩
   ·obtain ⟨pr,hat⟩:=Wv hp hj hk h1
    exact ⟨pr,v,rfl,hat⟩
  | succ j=>simpa using e2 j x (by simpa using hx)
 | [],_::_,_,hb,_=>hb.elim
 | _::_,[],_,hb,_=>hb.elim
section
variable {P:Program} {T:aU} {S:St} {d:Nat} {o:Oper}
theorem Eff.into {β:Nat→Loc} {ow:Nat→Option Nat} {w:World} (hw:WF ow w) (d c p:Nat) {g:Nat} (hg:ow g=some c) (cs:Array Value):Eff β ow w β (fun k=>if ow k=some p then some c else ow k) (w.setRow g cs) [c,p] d:=by
 refine ⟨fun _ _=>rfl,rfl,rfl,rfl,by simp,fun k hk hn=>⟨setRow_other w g k cs (fun e=>hn c (by simp) (by rw [e];exact hg)),if_neg (hn p (by simp))⟩,fun k hk c' hc => ?_,fun k hk => ?_⟩
 ·by_cases h2:ow k=some p
  ·rw [if_pos h2] at hc
   cases hc
   exact .inl (by simp)
  ·rw [if_neg h2] at hc
   rcases hk with hk |⟨c0,h0,h1⟩
   ·exact absurd (hw k (by simp [hc])) (by omega)
   ·rw [h1] at hc
    cases hc
    exact .inl h0
 ·have h1:ow k≠Option.none:=by
   intro e
   simp [e] at hk
  simpa using hw k h1
theorem H7 (hT:bf P T) {t:TypeId} {x y:Operand} (ho:o.op = .store t x y) {td:pO} (ht:T t=some td) {c i p e sz n:Nat} {F:Nat→List AC} {cs:List SV} {l:List Chunk} {G:List AC} (hx:S.ev x=some (XV.sv (.ptr c i sz 0))) (hy:S.ev y=some (.cv (.agg cs)))
  (hc:S.mem.get c=some (.abs (iP e sz n F))) (hp:S.mem.get p=some (.abs (mK l))) (hcp:c≠p) (hsz:td.size=sz) (hcs:cs.length=sz) (hfine:(CV.agg cs).fine=true) (hi:i<n) (hG:Boxed p l cs G) :
  bT P S d o { v:=XV.val undef,upd:=[(c,.abs (iP e sz n fun k=>if k=i then G else F k))],wr:=[c,p] } [c,p]:=by
 intro β ow w a K Q hw _ hops hr hK
 have h1:=hops x (by rw [ho];simp [Op.operands]) _ hx
 have h2:=hops y (by rw [ho];simp [Op.operands]) _ hy
 have hP:=hr p (by simp) _ hp
 obtain ⟨k0,k1,m1,m2,m3,m4,arr,m5,m6,m7⟩:=hr c (by simp) _ hc
 simp only [XV.rel,CV.rel,SV.rel] at h1
 obtain ⟨r1,r2⟩:=CV.p8 (show (CV.agg cs).rel β (a.eval y) from h2) hfine
 have r1':bg β cs (a.eval y).cells.toList:=r1
 obtain ⟨b1,b2⟩:=rW hP hG r1'
 have hl0:cs.length=(a.eval y).cells.toList.length:=r1'.length
 have hl1:(a.eval y).cells.size=td.size:=by rw [← Array.length_toList,← hl0,hcs,hsz]
 have hcap:subs (β c) 0=(β c).cap:=rfl
 rw [hcap] at m2 m3 m6
 have hrow:∀ i',i'<n→i' * sz + sz≤arr.size:=by
  intro i' hi'
  rw [m6]
  have h3:i' + 1≤(β c).cap:=by omega
  have h4:=Nat.mul_le_mul_right sz h3
  rw [Nat.add_mul,Nat.one_mul] at h4
  exact h4
 have hri:=hrow i hi
 have hszr:=fP (P:=P) hT ht w
 have hst:=run_storeCells_at P (β c).blk (i * sz + 0) e (a.eval y).cells.toList 0 arr w m5 (by simp;omega) r2
 simp only [Nat.add_zero,Array.length_toList] at hst
 have hrun:(execOp a.eval o).run P w = .ok .skip (w.setRow (β c).blk (arr.toList.take (i * sz)++(a.eval y).cells.toList++arr.toList.drop (i * sz + (a.eval y).cells.size)).toArray):=by
  have e0:(β c).addr (i * sz + 0)=⟨(β c).blk,i * sz,none⟩:=by simp [Loc.addr,k1]
  have hne:¬ (a.eval y).cells.size≠td.size:=by omega
  simp only [execOp,ho,h1,Instr.storeAt,Instr.sureAddr,storeVar,e0,Sem.run_bind,Sem.run_pure,Result.andThen_ok,hszr,if_neg hne,Sem.run_ite,hst]
 obtain ⟨w',hw'⟩:∃ w',w.setRow (β c).blk (arr.toList.take (i * sz)++(a.eval y).cells.toList++arr.toList.drop (i * sz + (a.eval y).cells.size)).toArray=w':=⟨_,rfl⟩
 have hE:=Eff.into (β:=β) hw d c p m1 (arr.toList.take (i * sz)++(a.eval y).cells.toList++arr.toList.drop (i * sz + (a.eval y).cells.size)).toArray
 refine upon_skip hrun (hK β _ _ undef hE rfl (fun c' ch hc' => ?_))
 simp only [Mem.get,aL] at hc'
 by_cases hcc:c=c'
 ·subst hcc
  simp only [decide_true,cond_true,Option.some.injEq] at hc'
  subst hc'
  have hoth:∀ k,k≠(β c).blk→(w.setRow (β c).blk (arr.toList.take (i * sz)++(a.eval y).cells.toList++arr.toList.drop (i * sz + (a.eval y).cells.size)).toArray).heap[k]? = w.heap[k]?:=fun k hk=>setRow_other w (β c).blk k _ (fun e=>hk e)
  have hown:∀ k,(if ow k=some p then some c else ow k)=some c↔(ow k=some p∨ow k=some c):=by
   intro k
   split
   ·rename_i h;simp [h]
   ·rename_i h;simp [h]
  have hpb:∀ k,ow k=some p→k≠(β c).blk:=fun k hk e=>by
   rw [e,m1] at hk
   exact hcp (Option.some.inj hk)
  refine ⟨k0,k1,(hown _).2 (.inr m1),m2,m3,fun k hk => ?_,_,setRow_heap w _ arr _ e _ m5,?_,fun i' hi' => ?_⟩
  ·rcases (hown k).1 hk with h |h
   ·simpa using hw k (by simp [h])
   ·simpa using hw k (by simp [h])
  ·show _=(β c).cap * sz
   simp only [List.size_toArray,List.length_append,List.length_take,List.length_drop,Array.length_toList]
   omega
  ·have hri':=hrow i' hi'
   by_cases hii:i'=i
   ·subst hii
    simp only [if_true]
    refine ⟨by rw [b1,← hl0,hcs],fun j x hx' => ?_⟩
    obtain ⟨pr,v,e1,e2⟩:=b2 j x hx'
    have hjl:j<sz:=by rw [← hcs,hl0];exact (List.getElem?_eq_some_iff.1 e1).1
    refine ⟨pr,v,?_,AC.jk (x:=x) (p:=pr) (v:=v) (fun k hk=>⟨(hown k).2 (.inl hk),hpb k hk⟩) (fun k hk=>hoth k (hpb k hk)) e2⟩
    rw [List.getElem?_toArray,List.append_assoc,List.getElem?_append_right (by simp;omega),List.getElem?_append_left (by simp;omega),← e1]
    congr 1
    simp only [List.length_take,Array.length_toList]
    omega
   ·simp only [hii,if_false]
    obtain ⟨q1,q2⟩:=m7 i' hi'
    refine ⟨q1,fun j x hx' => ?_⟩
    obtain ⟨pr,v,e1,e2⟩:=q2 j x hx'
    have hjl:j<sz:=by rw [← q1];exact (List.getElem?_eq_some_iff.1 hx').1
    refine ⟨pr,v,?_,AC.jk (x:=x) (p:=pr) (v:=v) (fun k hk=>⟨(hown k).2 (.inr hk.1),hk.2⟩) (fun k hk=>hoth k hk.2) e2⟩
    rw [List.getElem?_toArray]
    rcases Nat.lt_or_gt_of_ne hii with h |h
    ·have h5:i' * sz + sz≤i * sz:=by
      have:=Nat.mul_le_mul_right sz (show i' + 1≤i by omega)
      rw [Nat.add_mul,Nat.one_mul] at this
      exact this
     rw [List.append_assoc,List.getElem?_append_left (by simp;omega),List.getElem?_take,if_pos (by omega)]
     simpa using e1
    ·have h5:i * sz + sz≤i' * sz:=by
      have:=Nat.mul_le_mul_right sz (show i + 1≤i' by omega)
      rw [Nat.add_mul,Nat.one_mul] at this
      exact this
     rw [List.getElem?_append_right (by simp;omega),List.getElem?_drop]
     rw [← Array.getElem?_toList] at e1
     rw [← e1]
     congr 1
     simp only [List.length_append,List.length_take,Array.length_toList]
     omega
 ·simp [hcc] at hc'
end
open Go.RowKit
section
variable {P:Program} {T:aU} {S:St} {d:Nat} {o:Oper}
theorem ou (hT:bf P T) {t:TypeId} {n:Nat} {parts:Array (Nat×Operand)} (ho:o.op = .buildSlice t n parts) {e:TypeId} {sz:Nat} {cs:List SV} (hcs:jc T S t n parts.toList=some (e,sz,cs)) (hd:cs.all (SV.ok fun i => !Nat.beq i d)=true) :
  bT P S d o { v:=XV.sv (.slc d sz 0 n),upd:=[(d,.cells e cs)] } []:=by
 refine rQ (L:=fun w=>⟨w.heap.size,0,n,false,fun _=>0⟩) (fun w=>⟨rfl,rfl,rfl⟩) hd fun β w a hx => ?_
 obtain ⟨arr,g1,g2,g3⟩:=oQ (P:=P) hT hcs (β:=β) (w:=w) (a:=a) (fun y hy X hX=>hx y.2 (by rw [ho];simp only [Op.operands];simp;exact ⟨y.1,by simpa using hy⟩) X hX)
 refine ⟨.slice (some ⟨w.heap.size,0,none⟩) n n,arr,by simp [execOp,ho,g1],g2,?_⟩
 simp [XV.rel,CV.rel,SV.rel,aX,Loc.addr]
theorem xq (hT:bf P T) {s x:Operand} {t e:TypeId} {tds tde:pO} (ho:o.op = .call { callee := .builtin .append,args := #[s,x],argTypes := #[t,t] }) (htd:T t=some tds) (hds:tds.desc = .slice e) (hte:T e=some tde) (hzl:Nat.beq tde.zero.length tde.size=true)
  {q p:Nat} {cs:List SV} {l:List Chunk} {G:List AC} (hs:S.ev s=some (XV.val (.slice none 0 0))) (hx:S.ev x=some (XV.sv (.slc q tde.size 0 1))) (hq:S.mem.get q=some (.cells e cs)) (hp:S.mem.get p=some (.abs (mK l))) (hcs:cs.length=tde.size) (hone:cs.all SV.one=true)
  (hbytes:tde.bytes≤140737488355328) (hG:Boxed p l cs G):bT P S d o { v:=XV.sv (.slc d tde.size 0 1),upd:=[(d,.abs (iP e tde.size 1 fun _=>G))],wr:=[p] } [q,p]:=by
 intro β ow w ac K' Q hw hfr hops hr hK
 have h1:=hops s (by rw [ho];simp [Op.operands,Call.operands]) _ hs
 have h2:=hops x (by rw [ho];simp [Op.operands,Call.operands]) _ hx
 simp only [XV.rel,CV.rel,SV.rel] at h1 h2
 obtain ⟨n0,n1,n2,arr,n3,n4⟩:=hr q (by simp) _ hq
 have hP:=hr p (by simp) _ hp
 rw [if_neg (by rw [n0];decide)] at h2
 obtain ⟨a0,v1,v2,v3⟩:=h2
 have ha0:a0=(β q).addr 0:=by rw [v3 (by omega)];simp
 have hlen:arr.toList.length=tde.size:=by rw [← n4.length,hcs]
 obtain ⟨b1,b2⟩:=rW hP hG n4
 obtain ⟨v',w',β',ow',r1,r2,r3,r4⟩:=oq (P:=P) (c:=none) (m:=0) (k:=1) (f:=fun _=>[]) (g:=fun _=>arr.toList) hT htd hds hte (Nat.eq_of_beq_eq_true hzl) (β:=β) (d:=d) o.type hw (by simp) (v0:=ac.eval s) (xv:=ac.eval x) (.inl ⟨h1,rfl,rfl⟩) (fun i hi=>by omega) (fun _ _=>hlen)
  ⟨some a0,_,v1,fun _=>⟨a0,rfl,fun j v hj=>by
   have hj':arr.toList[j]? = some v:=by simpa [flat] using hj
   rw [ha0,gH]
   simp only [Loc.addr,n1,Nat.zero_add]
   rw [cell_of_row w _ _ arr e _ n3]
   simpa using hj'⟩⟩ (fun u hu=>bg.one n4 hone u (by simpa [flat] using hu)) (by decide) (by omega)
 let ow2:Nat→Option Nat:=fun k=>if ow k=some p then some d else ow' k
 have hkeep:∀ k,ow k=some p→w'.heap[k]? = w.heap[k]?∧ow' k=some p:=fun k hk=>by
  obtain ⟨e1,e2⟩:=r2.keep k (hw k (by simp [hk])) (fun c hc=>by simp at hc)
  exact ⟨e1,by rw [e2,hk]⟩
 have hown:∀ k,ow2 k=some d↔(ow k=some p∨ow' k=some d):=by
  intro k
  simp only [ow2]
  split
  ·rename_i h;simp [h]
  ·rename_i h;simp [h]
 have hE:Eff β ow w β' ow2 w' [p] d:=by
  refine ⟨r2.beta,r2.os,r2.tape,r2.output,r2.size,fun k hk hn => ?_,fun k hk c hc => ?_,fun k hk => ?_⟩
  ·obtain ⟨e1,e2⟩:=r2.keep k hk (fun c hc=>by simp at hc)
   exact ⟨e1,by simp only [ow2];rw [if_neg (hn p (by simp))];exact e2⟩
  ·simp only [ow2] at hc
   split at hc
   ·exact .inr (Option.some.inj hc).symm
   ·rename_i h
    rcases hk with hk |⟨c0,h0,h1⟩
    ·rcases r2.mine k (.inl hk) c hc with h2 |h2
     ·simp at h2
     ·exact .inr h2
    ·simp only [List.mem_singleton] at h0
     rw [h0] at h1
     exact absurd h1 h
  ·simp only [ow2] at hk
   split at hk
   ·rename_i h
    have:=hw k (by simp [h])
    have:=r2.size
    omega
   ·exact r2.wf k hk
 refine upon_value (x:=v') ?_ (hK β' ow2 w' v' hE r3 (fun c' ch hc => ?_))
 ·simp only [execOp,ho,resolve,invoke,builtin,Sem.run_bind,Sem.run_pure,Result.andThen_ok,List.map_toArray,List.map_cons,List.map_nil,r1]
 ·simp only [Mem.get,aL] at hc
  by_cases hcc:d=c'
  ·subst hcc
   simp only [decide_true,cond_true,Option.some.injEq] at hc
   subst hc
   simp only [Holds] at r4
   by_cases hnil:(β' d).nil=true
   ·rw [if_pos hnil] at r4;omega
   rw [if_neg hnil] at r4
   obtain ⟨m1,m2,m3,m4,arr2,m5,m6,m7⟩:=r4
   have hpd:∀ k,ow k=some p→k≠(β' d).blk:=fun k hk e=>by
    have:=(hkeep k hk).2
    rw [e,m2] at this
    have hpd:p=d:=(Option.some.inj this).symm
    rw [hpd] at hk
    exact hfr k hk
   refine ⟨by simpa using hnil,m1,(hown _).2 (.inr m2),m3,m4,fun k hk => ?_,arr2,m5,m6,fun i hi => ?_⟩
   ·exact hE.wf k (by rw [hk];simp)
   ·obtain rfl:i=0:=by omega
    refine ⟨by rw [b1,hlen],fun j x hx' => ?_⟩
    obtain ⟨pr,v,e1,e2⟩:=b2 j x hx'
    obtain ⟨_,q2⟩:=m7 0 (by omega)
    refine ⟨pr,v,q2 j v e1,AC.jk (x:=x) (p:=pr) (v:=v) (fun k hk=>⟨(hown k).2 (.inl hk),hpd k hk⟩) (fun k hk=>(hkeep k hk).1) e2⟩
  ·simp [hcc] at hc
end
open Go.RowKit
section
variable {P:Program} {T:aU} {S:St} {d:Nat} {o:Oper}
theorem rU (hT:bf P T) {s x:Operand} {t e:TypeId} {tds tde:pO} (ho:o.op = .call { callee := .builtin .append,args := #[s,x],argTypes := #[t,t] }) (htd:T t=some tds) (hds:tds.desc = .slice e) (hte:T e=some tde) (hzl:Nat.beq tde.zero.length tde.size=true)
  {c q p m:Nat} {F:Nat→List AC} {cs:List SV} {l:List Chunk} {G:List AC} (hs:S.ev s=some (XV.sv (.slc c tde.size 0 m))) (hc:S.mem.get c=some (.abs (iP e tde.size m F))) (hx:S.ev x=some (XV.sv (.slc q tde.size 0 1))) (hq:S.mem.get q=some (.cells e cs)) (hp:S.mem.get p=some (.abs (mK l)))
  (hcp:c≠p) (hcd:c≠d) (hcs:cs.length=tde.size) (hone:cs.all SV.one=true) (h63:m + 1≤maxLen) (hbytes:(m + 1) * tde.bytes≤140737488355328) (hG:Boxed p l cs G) :
  bT P S d o { v:=XV.sv (.slc d tde.size 0 (m + 1)),upd:=[(d,.abs (iP e tde.size (m + 1) fun i=>if i<m then F i else G))],wr:=[c,p] } [c,q,p]:=by
 intro β ow w ac K' Q hw hfr hops hr hK
 have h1:=hops s (by rw [ho];simp [Op.operands,Call.operands]) _ hs
 have h2:=hops x (by rw [ho];simp [Op.operands,Call.operands]) _ hx
 simp only [XV.rel,CV.rel,SV.rel] at h1 h2
 obtain ⟨k0,k1,c1,c2,c3,c4,mW,c5,c6,c7⟩:=hr c (by simp) _ hc
 obtain ⟨n0,n1,n2,arr,n3,n4⟩:=hr q (by simp) _ hq
 have hP:=hr p (by simp) _ hp
 have hcap:subs (β c) 0=(β c).cap:=rfl
 rw [hcap] at c2 c3 c6
 rw [if_neg (by rw [k0];decide)] at h1
 rw [if_neg (by rw [n0];decide)] at h2
 obtain ⟨a1,u1,u2,u3⟩:=h1
 obtain ⟨a0,v1,v2,v3⟩:=h2
 have ha0:a0=(β q).addr 0:=by rw [v3 (by omega)];simp
 have hlen:arr.toList.length=tde.size:=by rw [← n4.length,hcs]
 obtain ⟨b1,b2⟩:=rW hP hG n4
 let ow1:Nat→Option Nat:=fun k=>if ow k=some c∧k≠(β c).blk then none else ow k
 let f:Nat→List Value:=fun i=>(mW.toList.drop (i * tde.size)).take tde.size
 have hw1:WF ow1 w:=fun k hk=>by
  simp only [ow1] at hk
  split at hk
  ·exact absurd rfl hk
  ·exact hw k hk
 have hrow:∀ i,i<m→i * tde.size + tde.size≤mW.size:=by
  intro i hi
  rw [c6]
  have h3:i + 1≤(β c).cap:=by omega
  have h4:=Nat.mul_le_mul_right tde.size h3
  rw [Nat.add_mul,Nat.one_mul] at h4
  exact h4
 have hfl:∀ i,i<m→(f i).length=tde.size:=fun i hi=>by
  have:=hrow i hi
  simp only [f,List.length_take,List.length_drop,Array.length_toList]
  omega
 have hfget:∀ i j v,(f i)[j]? = some v→mW[i * tde.size + j]? = some v:=fun i j v hj=>by
  simp only [f,List.getElem?_take] at hj
  split at hj
  ·rw [List.getElem?_drop] at hj
   simpa using hj
  ·cases hj
 have hfput:∀ i j v,j<tde.size→mW[i * tde.size + j]? = some v→(f i)[j]? = some v:=fun i j v hj hv=>by
  simp only [f,List.getElem?_take]
  rw [if_pos hj,List.getElem?_drop]
  simpa using hv
 have ha1:0<(β c).cap→a1=⟨(β c).blk,0,none⟩:=fun h=>by rw [u3 h];simp [Loc.addr,k1]
 have how1:ow1 (β c).blk=some c:=by simp only [ow1];rw [if_neg (by simp)];exact c1
 obtain ⟨v',w',β',ow',r1,r2,r3,r4⟩:=oq (P:=P) (c:=some c) (m:=m) (k:=1) (f:=f) (g:=fun _=>arr.toList) hT htd hds hte (Nat.eq_of_beq_eq_true hzl) (β:=β) (d:=d) o.type hw1 (by simpa using hcd) (v0:=ac.eval s) (xv:=ac.eval x)
  (.inr ⟨c,rfl,.inr ⟨k0,a1,by rw [u1,Nat.sub_zero],ha1,k1,how1,by omega,c3,mW,c5,c6,fun i hi=>⟨hfl i hi,fun j v hj=>hfget i j v hj⟩⟩⟩) hfl (fun _ _=>hlen)
  ⟨some a0,_,v1,fun _=>⟨a0,rfl,fun j v hj=>by
   have hj':arr.toList[j]? = some v:=by simpa [flat] using hj
   rw [ha0,gH]
   simp only [Loc.addr,n1,Nat.zero_add]
   rw [cell_of_row w _ _ arr e _ n3]
   simpa using hj'⟩⟩ (fun u hu=>bg.one n4 hone u (by simpa [flat] using hu)) h63 hbytes
 have hr2:Eff β ow1 w β' ow' w' [c] d:=r2
 let ow2:Nat→Option Nat:=fun k=>if (ow k=some c∧k≠(β c).blk)∨ow k=some p then some d else ow' k
 have hkeep:∀ k,((ow k=some c∧k≠(β c).blk)∨ow k=some p)→w'.heap[k]? = w.heap[k]?∧ow' k≠some d:=fun k hk=>by
  rcases hk with hk |hk
  ·have e0:ow1 k=none:=by simp only [ow1];rw [if_pos hk]
   obtain ⟨e1,e2⟩:=hr2.keep k (hw k (by simp [hk.1])) (fun c' _=>by rw [e0];simp)
   exact ⟨e1,by rw [e2,e0];simp⟩
  ·have e0:ow1 k=some p:=by simp only [ow1];rw [if_neg (by rw [hk];intro h;exact hcp (Option.some.inj h.1).symm)];exact hk
   obtain ⟨e1,e2⟩:=hr2.keep k (hw k (by simp [hk])) (fun c' hc'=>by simp only [List.mem_singleton] at hc';rw [e0,hc'];intro h;exact hcp (Option.some.inj h).symm)
   refine ⟨e1,by rw [e2,e0];intro h;rw [Option.some.inj h] at hk;exact hfr k hk⟩
 have hown:∀ k,ow2 k=some d↔(((ow k=some c∧k≠(β c).blk)∨ow k=some p)∨ow' k=some d):=by
  intro k
  simp only [ow2]
  split
  ·rename_i h;exact ⟨fun _ => .inl h,fun _=>rfl⟩
  ·rename_i h;exact ⟨fun e => .inr e,fun e=>e.resolve_left h⟩
 have hE:Eff β ow w β' ow2 w' [c,p] d:=by
  refine ⟨hr2.beta,hr2.os,hr2.tape,hr2.output,hr2.size,fun k hk hn => ?_,fun k hk c' hc' => ?_,fun k hk => ?_⟩
  ·have h5:ow k≠some c:=hn c (by simp)
   have h6:ow k≠some p:=hn p (by simp)
   have e0:ow1 k=ow k:=by simp only [ow1];rw [if_neg (fun h=>h5 h.1)]
   obtain ⟨e1,e2⟩:=hr2.keep k hk (fun c' hc'=>by simp only [List.mem_singleton] at hc';rw [e0,hc'];exact h5)
   refine ⟨e1,?_⟩
   simp only [ow2]
   rw [if_neg (fun h=>h.elim (fun h=>h5 h.1) h6),e2,e0]
  ·simp only [ow2] at hc'
   split at hc'
   ·exact .inr (Option.some.inj hc').symm
   ·rename_i h
    have h5:w.heap.size≤k∨∃ c0∈[c],ow1 k=some c0:=by
     rcases hk with hk |⟨c0,h0,h1⟩
     ·exact .inl hk
     ·simp only [List.mem_cons,List.not_mem_nil,or_false] at h0
      rcases h0 with h0 |h0
      ·subst h0
       exact .inr ⟨c0,by simp,by simp only [ow1];rw [if_neg (fun h'=>h (.inl h'))];exact h1⟩
      ·subst h0;exact absurd (.inr h1) h
    rcases hr2.mine k h5 c' hc' with h6 |h6
    ·simp only [List.mem_singleton] at h6
     exact .inl (by rw [h6];simp)
    ·exact .inr h6
  ·simp only [ow2] at hk
   split at hk
   ·rename_i h
    have h5:ow k≠none:=by rcases h with h |h<;>simp [h]
    have:=hw k h5
    have:=hr2.size
    omega
   ·exact hr2.wf k hk
 refine upon_value (x:=v') ?_ (hK β' ow2 w' v' hE r3 (fun c' ch hc' => ?_))
 ·simp only [execOp,ho,resolve,invoke,builtin,Sem.run_bind,Sem.run_pure,Result.andThen_ok,List.map_toArray,List.map_cons,List.map_nil,r1]
 ·simp only [Mem.get,aL] at hc'
  by_cases hcc:d=c'
  ·subst hcc
   simp only [decide_true,cond_true,Option.some.injEq] at hc'
   subst hc'
   simp only [Holds] at r4
   by_cases hnil:(β' d).nil=true
   ·rw [if_pos hnil] at r4;omega
   rw [if_neg hnil] at r4
   obtain ⟨m1,m2,m3,m4,arr2,m5,m6,m7⟩:=r4
   have hblk:∀ k,((ow k=some c∧k≠(β c).blk)∨ow k=some p)→k≠(β' d).blk:=fun k hk e=>(hkeep k hk).2 (by rw [e];exact m2)
   refine ⟨by simpa using hnil,m1,(hown _).2 (.inr m2),m3,m4,fun k hk=>hE.wf k (by rw [hk];simp),arr2,m5,m6,fun i hi => ?_⟩
   obtain ⟨_,q2⟩:=m7 i hi
   by_cases him:i<m
   ·rw [show ((fun i=>if i<m then F i else G) i)=F i from if_pos him]
    have ej:eB f m (fun _=>arr.toList) i=f i:=by simp only [eB,yG];rw [decide_eq_true him];rfl
    rw [ej] at q2
    obtain ⟨w1,w2⟩:=c7 i him
    refine ⟨w1,fun j y hy => ?_⟩
    obtain ⟨pr,v,e1,e2⟩:=w2 j y hy
    have hj:j<tde.size:=by rw [← w1];exact (List.getElem?_eq_some_iff.1 hy).1
    exact ⟨pr,v,q2 j v (hfput i j v hj e1),AC.jk (x:=y) (p:=pr) (v:=v) (fun k hk=>⟨(hown k).2 (.inl (.inl hk)),hblk k (.inl hk)⟩) (fun k hk=>(hkeep k (.inl hk)).1) e2⟩
   ·rw [show ((fun i=>if i<m then F i else G) i)=G from if_neg him]
    have ej:eB f m (fun _=>arr.toList) i=arr.toList:=by simp only [eB,yG];rw [decide_eq_false him];rfl
    rw [ej] at q2
    refine ⟨by rw [b1,hlen],fun j y hy => ?_⟩
    obtain ⟨pr,v,e1,e2⟩:=b2 j y hy
    exact ⟨pr,v,q2 j v e1,AC.jk (x:=y) (p:=pr) (v:=v) (fun k hk=>⟨(hown k).2 (.inl (.inr hk)),hblk k (.inr hk)⟩) (fun k hk=>(hkeep k (.inr hk)).1) e2⟩
  ·simp [hcc] at hc'
end
open Go.RowKit
def AC.one:AC→Bool
 | .raw u=>u.oneCell'
 | .row _ _ _=>true
theorem ET (arr:List Value) (sz:Nat):∀ m,m * sz≤arr.length→flat (fun i=>(arr.drop (i * sz)).take sz) m=arr.take (m * sz)
 | 0,_=>by simp [flat]
 | m + 1,h=>by
  have h1:m * sz≤arr.length:=by rw [Nat.add_mul,Nat.one_mul] at h;omega
  rw [flat,ET arr sz m h1,Nat.add_mul,Nat.one_mul,List.take_add]
section
variable {P:Program} {T:aU} {S:St} {d:Nat} {o:Oper}
theorem IJ (hT:bf P T) {s x:Operand} {t e:TypeId} {tds tde:pO} (ho:o.op = .call { callee := .builtin .append,args := #[s,x],argTypes := #[t,t] }) (htd:T t=some tds) (hds:tds.desc = .slice e) (hte:T e=some tde) (hzl:Nat.beq tde.zero.length tde.size=true)
  {c m:Nat} {F:Nat→List AC} (hs:S.ev s=some (XV.val (.slice none 0 0))) (hx:S.ev x=some (XV.sv (.slc c tde.size 0 m))) (hc:S.mem.get c=some (.abs (iP e tde.size m F)))
  (hcd:c≠d) (h0:0<m) (h63:m≤maxLen) (hbytes:m * tde.bytes≤140737488355328) (hone:∀ i,i<m→(F i).all AC.one=true) :
  bT P S d o { v:=XV.sv (.slc d tde.size 0 m),upd:=[(d,.abs (iP e tde.size m F))],wr:=[c] } [c]:=by
 intro β ow w ac K' Q hw hfr hops hr hK
 have h1:=hops s (by rw [ho];simp [Op.operands,Call.operands]) _ hs
 have h2:=hops x (by rw [ho];simp [Op.operands,Call.operands]) _ hx
 simp only [XV.rel,CV.rel,SV.rel] at h1 h2
 obtain ⟨k0,k1,c1,c2,c3,c4,mW,c5,c6,c7⟩:=hr c (by simp) _ hc
 have hcap:subs (β c) 0=(β c).cap:=rfl
 rw [hcap] at c2 c3 c6
 rw [if_neg (by rw [k0];decide)] at h2
 obtain ⟨a0,v1,v2,v3⟩:=h2
 have ha0:a0=(β c).addr 0:=by rw [v3 (by omega)];simp
 let f:Nat→List Value:=fun i=>(mW.toList.drop (i * tde.size)).take tde.size
 have hrow:∀ i,i<m→i * tde.size + tde.size≤mW.size:=by
  intro i hi
  rw [c6]
  have h3:i + 1≤(β c).cap:=by omega
  have h4:=Nat.mul_le_mul_right tde.size h3
  rw [Nat.add_mul,Nat.one_mul] at h4
  exact h4
 have hall:m * tde.size≤mW.toList.length:=by
  rw [Array.length_toList,c6]
  exact Nat.mul_le_mul_right _ c2
 have hfl:∀ i,i<m→(f i).length=tde.size:=fun i hi=>by
  have:=hrow i hi
  simp only [f,List.length_take,List.length_drop,Array.length_toList]
  omega
 have hfget:∀ i j v,(f i)[j]? = some v→mW[i * tde.size + j]? = some v:=fun i j v hj=>by
  simp only [f,List.getElem?_take] at hj
  split at hj
  ·rw [List.getElem?_drop] at hj
   simpa using hj
  ·cases hj
 have hfput:∀ i j v,j<tde.size→mW[i * tde.size + j]? = some v→(f i)[j]? = some v:=fun i j v hj hv=>by
  simp only [f,List.getElem?_take]
  rw [if_pos hj,List.getElem?_drop]
  simpa using hv
 have hflat:flat f m=mW.toList.take (m * tde.size):=ET mW.toList tde.size m hall
 have hones:∀ i,i<m→∀ u∈f i,u.oneCell'=true:=by
  intro i hi u hu
  obtain ⟨j,hj⟩:=List.getElem?_of_mem hu
  have hjl:j<tde.size:=by rw [← hfl i hi];exact (List.getElem?_eq_some_iff.1 hj).1
  obtain ⟨w1,w2⟩:=c7 i hi
  have hx1:(F i)[j]? = some ((F i)[j]'(by omega)):=List.getElem?_eq_getElem (by omega)
  obtain ⟨pr,v,e1,e2⟩:=w2 j _ hx1
  rw [hfget i j u hj] at e1
  cases e1
  have ho1:=List.all_eq_true.1 (hone i hi) _ (List.getElem_mem (by omega:j<(F i).length))
  generalize (F i)[j]'(by omega)=y at e2 ho1
  cases y with
  | raw u'=>simp only [AC.at] at e2;subst e2;exact ho1
  | row sz' n' f'=>obtain ⟨e3,_⟩:=e2;subst e3;rfl
 have hflatone:∀ n,n≤m→∀ u∈flat f n,u.oneCell'=true:=by
  intro n
  induction n with
  | zero=>intro _ u hu;simp [flat] at hu
  | succ n ih =>
   intro hn u hu
   rw [flat,List.mem_append] at hu
   rcases hu with hu |hu
   ·exact ih (by omega) u hu
   ·exact hones n (by omega) u hu
 obtain ⟨v',w',β',ow',r1,r2,r3,r4⟩:=oq (P:=P) (c:=none) (m:=0) (k:=m) (f:=fun _=>[]) (g:=f) hT htd hds hte (Nat.eq_of_beq_eq_true hzl) (β:=β) (d:=d) o.type hw (by simp) (v0:=ac.eval s) (xv:=ac.eval x) (.inl ⟨h1,rfl,rfl⟩) (fun i hi=>by omega) hfl
  ⟨some a0,_,v1,fun _=>⟨a0,rfl,fun j v hj=>by
   rw [hflat,List.getElem?_take] at hj
   split at hj
   ·rw [ha0,gH]
    simp only [Loc.addr,k1,Nat.zero_add]
    rw [cell_of_row w _ _ mW e _ c5]
    simpa using hj
   ·cases hj⟩⟩ (fun u hu=>hflatone m (Nat.le_refl _) u hu) (by omega) (by rw [Nat.zero_add];exact hbytes)
 simp only [Nat.zero_add] at r3 r4
 let ow2:Nat→Option Nat:=fun k=>if ow k=some c∧k≠(β c).blk then some d else ow' k
 have hkeep:∀ k,(ow k=some c∧k≠(β c).blk)→w'.heap[k]? = w.heap[k]?∧ow' k≠some d:=fun k hk=>by
  obtain ⟨e1,e2⟩:=r2.keep k (hw k (by simp [hk.1])) (fun c' hc'=>by simp at hc')
  exact ⟨e1,by rw [e2,hk.1];intro h;exact hcd (Option.some.inj h)⟩
 have hown:∀ k,ow2 k=some d↔((ow k=some c∧k≠(β c).blk)∨ow' k=some d):=by
  intro k
  simp only [ow2]
  split
  ·rename_i h;exact ⟨fun _ => .inl h,fun _=>rfl⟩
  ·rename_i h;exact ⟨fun e => .inr e,fun e=>e.resolve_left h⟩
 have hE:Eff β ow w β' ow2 w' [c] d:=by
  refine ⟨r2.beta,r2.os,r2.tape,r2.output,r2.size,fun k hk hn => ?_,fun k hk c' hc' => ?_,fun k hk => ?_⟩
  ·have h5:ow k≠some c:=hn c (by simp)
   obtain ⟨e1,e2⟩:=r2.keep k hk (fun c' hc'=>by simp at hc')
   refine ⟨e1,?_⟩
   simp only [ow2]
   rw [if_neg (fun h=>h5 h.1),e2]
  ·simp only [ow2] at hc'
   split at hc'
   ·exact .inr (Option.some.inj hc').symm
   ·rename_i h
    rcases hk with hk |⟨c0,h0',h1'⟩
    ·rcases r2.mine k (.inl hk) c' hc' with h6 |h6
     ·simp at h6
     ·exact .inr h6
    ·simp only [List.mem_singleton] at h0'
     subst h0'
     obtain ⟨_,e2⟩:=r2.keep k (hw k (by simp [h1'])) (fun c' hc'=>by simp at hc')
     rw [e2,h1'] at hc'
     exact .inl (by simpa using (Option.some.inj hc').symm)
  ·simp only [ow2] at hk
   split at hk
   ·rename_i h
    have:=hw k (by simp [h.1])
    have:=r2.size
    omega
   ·exact r2.wf k hk
 refine upon_value (x:=v') ?_ (hK β' ow2 w' v' hE r3 (fun c' ch hc' => ?_))
 ·simp only [execOp,ho,resolve,invoke,builtin,Sem.run_bind,Sem.run_pure,Result.andThen_ok,List.map_toArray,List.map_cons,List.map_nil,r1]
 ·simp only [Mem.get,aL] at hc'
  by_cases hcc:d=c'
  ·subst hcc
   simp only [decide_true,cond_true,Option.some.injEq] at hc'
   subst hc'
   simp only [Holds] at r4
   by_cases hnil:(β' d).nil=true
   ·rw [if_pos hnil] at r4;omega
   rw [if_neg hnil] at r4
   obtain ⟨m1,m2,m3,m4,arr2,m5,m6,m7⟩:=r4
   have hblk:∀ k,(ow k=some c∧k≠(β c).blk)→k≠(β' d).blk:=fun k hk e=>(hkeep k hk).2 (by rw [e];exact m2)
   refine ⟨by simpa using hnil,m1,(hown _).2 (.inr m2),m3,m4,fun k hk=>hE.wf k (by rw [hk];simp),arr2,m5,m6,fun i hi => ?_⟩
   obtain ⟨_,q2⟩:=m7 i hi
   have ej:eB (fun _=>[]) 0 f i=f i:=by simp only [eB,yG];rw [decide_eq_false (Nat.not_lt_zero _)];rfl
   rw [ej] at q2
   obtain ⟨w1,w2⟩:=c7 i hi
   refine ⟨w1,fun j y hy => ?_⟩
   obtain ⟨pr,v,e1,e2⟩:=w2 j y hy
   have hj:j<tde.size:=by rw [← w1];exact (List.getElem?_eq_some_iff.1 hy).1
   exact ⟨pr,v,q2 j v (hfput i j v hj e1),AC.jk (x:=y) (p:=pr) (v:=v) (fun k hk=>⟨(hown k).2 (.inl hk),hblk k hk⟩) (fun k hk=>(hkeep k hk).1) e2⟩
  ·simp [hcc] at hc'
end
open Go.RowKit Go.Proofs Go.Shelf
open Go.RowKit
variable {P:Program} {T:aU} {S:St} {d:Nat} {o:Oper}
theorem DZ (hT:bf P T) {s x:Operand} {t e:TypeId} {tds tde:pO} (ho:o.op = .call { callee := .builtin .append,args := #[s,x],argTypes := #[t,t] }) (htd:T t=some tds) (hds:tds.desc = .slice e) (hte:T e=some tde)
  (hs:S.ev s=some (XV.val (.slice none 0 0))) (hx:S.ev x=some (XV.val (.slice none 0 0))):bT P S d o { v:=XV.val (.slice none 0 0) } []:=by
 intro β ow w ac K' Q hw hfr hops hr hK
 have h1:=hops s (by rw [ho];simp [Op.operands,Call.operands]) _ hs
 have h2:=hops x (by rw [ho];simp [Op.operands,Call.operands]) _ hx
 simp only [XV.rel,CV.rel,SV.rel] at h1 h2
 obtain ⟨ie,ue,g1,_⟩:=iF hT hte
 have hu:=dh hT htd hds
 have hrun:=mI (P:=P) w t o.type e ie hu g1 none 0 0 none 0 (Nat.le_refl _)
 refine upon_value (x := .slice none 0 0) ?_ (hK _ _ _ _ (Eff.refl hw d) rfl (fun _ _ h=>by cases h))
 simp only [execOp,ho,resolve,invoke,builtin,Sem.run_bind,Sem.run_pure,Result.andThen_ok,List.map_toArray,List.map_cons,List.map_nil,h1,h2,hrun]
open Go.RowKit Go.ChangeShapes Go.WideShapes Go.Deep
def Came (W:World) (v:Value) (a:AD):Prop :=
 ∃ Ls:List Loc,Ls.length=a.wid∧∀ (i:Nat) (β0:Nat→Loc),(∀ k L,Ls[k]? = some L→β0 (i + k)=L)→(a.cv i).rel β0 v∧∀ c ch,(a.mem i).get c=some ch→iD W (fun _=>True) (β0 c) ch
def Ij (W:World):List Value→List AD→Prop
 | [],[]=>True
 | v::r,a::l=>Came W v a∧Ij W r l
 | _,_=>False
def Ev (W:World):List iX→Prop
 | []=>True
 | A::r=>(∃ L,Bv W (fun _=>True) L A)∧Ev W r
theorem Ij.args {W:World}:∀ {l:List AD} {vs:List Value},Ij W vs l →
  ∃ Ls:List Loc,Ls.length=fu l∧∀ (i:Nat) (β0:Nat→Loc),(∀ k L,Ls[k]? = some L→β0 (i + k)=L)→iB β0 (jl i l) vs∧∀ c ch,(zD i l).get c=some ch→iD W (fun _=>True) (β0 c) ch
 | [],[],_=>⟨[],rfl,fun i β0 _=>⟨rfl,fun c ch h=>by simp [zD,Mem.get] at h⟩⟩
 | a::l,v::t,hl=>by
  obtain ⟨La,a1,a2⟩:=hl.1
  obtain ⟨Ls,e1,e2⟩:=Ij.args hl.2
  refine ⟨La++Ls,by simp [e1,a1,fu],fun i β0 hβ => ?_⟩
  obtain ⟨f1,f2⟩:=a2 i β0 (fun k L hk=>hβ k L (by rw [List.getElem?_append_left (List.getElem?_eq_some_iff.1 hk).1];exact hk))
  obtain ⟨g1,g2⟩:=e2 (i + a.wid) β0 (fun k L' hk=>by
   have:=hβ (a.wid + k) L' (by rw [List.getElem?_append_right (by omega),a1,Nat.add_sub_cancel_left];exact hk)
   rwa [← Nat.add_assoc] at this)
  refine ⟨⟨v,t,rfl,f1,g1⟩,fun c ch hc => ?_⟩
  rw [zD,Mem.get_append] at hc
  cases hm:(a.mem i).get c with
  | some ch0 =>
   rw [hm] at hc
   simp only [Option.some_or,Option.some.injEq] at hc
   subst hc
   exact f2 c _ hm
  | none =>
   rw [hm] at hc
   exact g2 c ch (by simpa using hc)
 | [],_::_,hl=>hl.elim
 | _::_,[],hl=>hl.elim
theorem Ev.exts {W:World}:∀ {es:List iX},Ev W es →
  ∃ Ls:List Loc,Ls.length=es.length∧∀ (k:Nat) (A:iX),es[k]? = some A→∃ L,Ls[k]? = some L∧Bv W (fun _=>True) L A
 | [],_=>⟨[],rfl,fun k A h=>by simp at h⟩
 | A::r,h=>by
  obtain ⟨L,hL⟩:=h.1
  obtain ⟨Ls,e1,e2⟩:=Ev.exts h.2
  refine ⟨L::Ls,by simp [e1],fun k B hk => ?_⟩
  cases k with
  | zero =>
   simp only [List.getElem?_cons_zero,Option.some.injEq] at hk
   subst hk
   exact ⟨L,by simp,hL⟩
  | succ k=>simpa using e2 k B (by simpa using hk)
theorem Reads.calls {P:Program} {f:FuncId} {l:List AD} {es:List iX} {X:XV} (h:Reads P f l es X) {W:World} {vs:List Value} (ha:Ij W vs l) (he:Ev W es) :
  Calls P f vs.toArray W fun e W'=>∃ v β',e = .returned v∧X.rel β' v∧Below W.heap.size W W':=by
 obtain ⟨d,h1,_⟩:=h
 obtain ⟨Ls,e1,e2⟩:=ha.args
 obtain ⟨Es,f1,f2⟩:=he.exts
 let β0:Nat→Loc:=fun i=>((Ls++Es)[i]?).getD default
 obtain ⟨g1,g2⟩:=e2 0 β0 (fun k L hk=>by
  have:k<Ls.length:=(List.getElem?_eq_some_iff.1 hk).1
  simp only [β0]
  rw [Nat.zero_add,List.getElem?_append_left this,hk]
  rfl)
 refine (h1 β0 (fun _=>none) W vs (fun k h=>absurd rfl h) (fun k h=>by cases h) g1 (fun c _ ch hc => ?_)).mono ?_
 ·obtain ⟨_,_,_,h4⟩:=pQ hc
  rcases h4 with h4 |⟨A,rfl,h5,h6⟩
  ·exact (g2 c ch h4).holds fun _ _=>rfl
  ·obtain ⟨L,k1,k2⟩:=f2 _ A h6
   have hb:β0 c=L:=by
    simp only [β0]
    rw [List.getElem?_append_right (by omega),e1,show c - fu l=c - (0 + fu l) by omega,k1]
    rfl
   exact iD.holds (ch := .ext A) (by rw [hb];exact k2) fun _ _=>rfl
 ·rintro e W' ⟨v,β',ow',rfl,E,hv,_⟩
  exact ⟨v,β',rfl,hv,E.os,E.tape,E.output,E.size,fun k hk=>(E.keep k hk (fun c hc=>by cases hc)).1⟩
theorem Ey.at {W:World} {v:Value} {sz n:Nat} {f:Nat→List Value} (h:Ey W v sz n f):∃ L:Loc,(∀ (β:Nat→Loc) c,β c=L→(SV.slc c sz 0 n).rel β v)∧ql W (fun _=>True) L sz n f:=by
 obtain ⟨L,h1,h2⟩:=h
 refine ⟨L,h1,?_⟩
 unfold ql
 by_cases hn:L.nil=true
 ·rw [if_pos hn] at h2 ⊢;exact h2
 ·rw [if_neg hn] at h2 ⊢;exact ⟨⟨h2.1,trivial⟩,h2.2⟩
theorem QX {W:World} {v:Value} {sz n:Nat} {f:Nat→List Value} (h:Ey W v sz n f):Came W v (.row sz n f):=by
 obtain ⟨L,h1,h2⟩:=h.at
 refine ⟨[L],rfl,fun i β0 hβ => ?_⟩
 have hb:β0 i=L:=by simpa using hβ 0 L rfl
 exact ⟨h1 β0 i hb,zP hb h2⟩
theorem QW {W:World} {b sz n:Nat} {f:Nat→List Value} (hb:b<W.heap.size) (h:∀ i,i<n→(f i).length=sz∧∀ j v,(f i)[j]? = some v→W.cell? ⟨b,i * sz + j,none⟩=some v):∃ L,Bv W (fun _=>True) L (Qv b sz n f) :=
 ⟨default,fun k=>k=b,fun k hk=>⟨by rw [hk];exact hb,trivial⟩,rfl,h⟩
def Eu (W:World):List Value→List AC→Prop
 | [],[]=>True
 | v::r,.raw u::l=>v=u∧Eu W r l
 | v::r,.row sz n f::l=>Ey W v sz n f∧Eu W r l
 | _,_=>False
theorem Eu.cells {W:World}:∀ {l:List AC} {vs:List Value},Eu W vs l →
  ∃ Ls:List Loc,Ls.length=D5 l∧∀ (i:Nat) (β0:Nat→Loc),(∀ k L,Ls[k]? = some L→β0 (i + k)=L)→bg β0 (vK i l) vs∧∀ c ch,(AZ i l).get c=some ch→iD W (fun _=>True) (β0 c) ch
 | [],[],_=>⟨[],rfl,fun i β0 _=>⟨rfl,fun c ch h=>by simp [AZ,Mem.get] at h⟩⟩
 | .raw x::l,v::t,hl=>by
  obtain ⟨rfl,hl⟩:=hl
  obtain ⟨Ls,e1,e2⟩:=Eu.cells hl
  exact ⟨Ls,e1,fun i β0 hβ=>⟨⟨v,t,rfl,rfl,(e2 i β0 hβ).1⟩,(e2 i β0 hβ).2⟩⟩
 | .row sz n f::l,v::t,hl=>by
  obtain ⟨L,a1,a2⟩:=hl.1.at
  obtain ⟨Ls,e1,e2⟩:=Eu.cells hl.2
  refine ⟨L::Ls,by simp [e1,D5],fun i β0 hβ => ?_⟩
  have hb:β0 i=L:=by simpa using hβ 0 L rfl
  obtain ⟨g1,g2⟩:=e2 (i + 1) β0 (fun k L' hk=>by
   have:=hβ (k + 1) L' (by simpa using hk)
   rwa [Nat.add_right_comm,Nat.add_assoc])
  refine ⟨⟨v,t,rfl,a1 β0 i hb,g1⟩,fun c ch hc => ?_⟩
  simp only [AZ,Mem.get,aL] at hc
  by_cases hi:i=c
  ·subst hi
   simp only [decide_true,cond_true,Option.some.injEq] at hc
   rw [hb,← hc];exact a2
  ·simp only [hi,decide_false,cond_false] at hc
   exact g2 c ch hc
 | [],_::_,hl=>hl.elim
 | .raw _::_,[],hl=>hl.elim
 | .row _ _ _::_,[],hl=>hl.elim
section
variable {P:Program} {T:aU} {H:Type} {enc:TypeId×Value→H} {W:World}
end
open Go.RowKit Go.ChangeShapes Go.WideShapes
def Gh (n:Nat) (F:Nat→List AC) (ad:Nat→Nat→Option Addr×Nat):iX where
 Ψ w _ O:=∀ i,i<n→∀ j x,(F i)[j]? = some x→∃ v,AC.at w O x (ad i j) v
 loc:=by
  intro w w' L O hk h i hi j x hx
  obtain ⟨v,e⟩:=h i hi j x hx
  exact ⟨v,AC.jk (fun _ h=>h) hk e⟩
theorem Vu {i c:Nat} {a b ch:Chunk} (ha:a.fD=true) (hb:b.fD=true) (h:Mem.get [(i,a),(i + 1,b)] c=some ch):i≤c∧c<i + 2∧ch.fD=true:=by
 simp only [Mem.get,aL] at h
 by_cases h1:i=c
 ·subst h1
  simp only [decide_true,cond_true,Option.some.injEq] at h
  subst h
  exact ⟨Nat.le_refl _,by omega,ha⟩
 ·by_cases h2:i + 1=c
  ·subst h2
   simp only [h1,decide_false,decide_true,cond_true,cond_false,Option.some.injEq] at h
   subst h
   exact ⟨by omega,by omega,hb⟩
  ·simp [h1,h2] at h
def AD.deep (sz n:Nat) (F:Nat→List AC) (ad:Nat→Nat→Option Addr×Nat):AD :=
 ⟨2,fun i => .one (.slc i sz 0 n),fun i=>[(i,.ro sz n fun k=>dK 0 (F k) (ad k)),(i + 1,.ext (Gh n F ad))],fun h=>Vu rfl rfl h⟩
theorem Ck {M:Mem} {rd:List Nat} {q n i j sz k:Nat} {F:Nat→List AC} {ad:Nat→Nat→Option Addr×Nat} {f:Nat→List Value} (hm:M.get q=some (.ext (Gh n F ad))) (hrd:gI q rd=true) (hi:i<n) (hx:(F i)[j]? = some (.row sz k f)):bC M rd (.one (.raw (.slice (ad i j).1 k (ad i j).2))) (.row sz k f):=by
 refine bC.row ?_
 intro β ow w v hw hv hr
 simp only [CV.rel,SV.rel] at hv
 obtain ⟨O,h4,h5⟩:=hr q ((bH q rd).1 hrd) _ hm
 obtain ⟨v',_,h2⟩:=h5 i hi j _ hx
 rcases h2 with ⟨e1,e2⟩ |⟨a,b,off,e1,e2,e3,e4,e5⟩
 ·refine ⟨⟨0,0,0,true,fun _=>0⟩,?_,?_⟩
  ·simp only [SV.rel,if_true]
   rw [hv,e1,e2]
   simp
  ·simp [ql,e2]
 ·refine ⟨⟨b,off,(ad i j).2,false,fun _=>0⟩,?_,?_⟩
  ·simp only [SV.rel,Bool.false_eq_true,if_false]
   refine ⟨a,by rw [hv,e1,Nat.sub_zero],by omega,fun h0 => ?_⟩
   rw [e3 h0]
   simp [Loc.addr]
  ·simp only [ql,Bool.false_eq_true,if_false]
   refine ⟨⟨(h4 b e4).2,.inl (h4 b e4).1⟩,fun k' hk'=>⟨(e5 k' hk').1,fun j' u hj' => ?_⟩⟩
   exact (e5 k' hk').2 j' u hj'
section
variable {P:Program} {T:aU} {H:Type} {enc:TypeId×Value→H} {W:World}
theorem V9 {a:Addr} {n i:Nat}:(a.add n).add i=a.add (n + i):=by
 unfold Addr.add
 split<;>split<;>simp_all [Nat.add_assoc]
theorem Q0 {a:Addr} {v:Value} (h:W.cell? a=some v):a.block<W.heap.size:=by
 by_cases hb:a.block<W.heap.size
 ·exact hb
 ·have e:W.heap[a.block]? = none:=Array.getElem?_eq_none (by omega)
  simp [World.cell?,e] at h
theorem Dy (hT:bf P T) {t e:TypeId} {td te:pO} (ht:T t=some td) (hd:td.desc = .slice e) (he:T e=some te) (hsz:0<te.size) {fuel:Nat} {cs:List Value} {x:DataW H×List MemPlace}
  (hf:DataW.trod enc P W 0 (fun _=>true) true fuel t cs=some x) :
  cs=[.slice none 0 0]∨∃ (a:Addr) (len cap:Nat),cs=[.slice (some a) len cap]∧len≤cap∧cap≤maxLen∧(0<cap→a=⟨a.block,a.off,none⟩∧a.block<W.heap.size) ∧
   ∀ i,i<len→∃ cs' n y,DataW.trod enc P W 0 (fun _=>true) true n e cs'=some y∧cs'.length=te.size∧∀ j u,cs'[j]? = some u→W.cell? ⟨a.block,a.off + (i * te.size + j),none⟩=some u:=by
 have hu:=dh hT ht hd
 have hc:P.cellsOf e=te.size:=iJ hT he
 rcases Go.Deep.open_slice hu hf with ⟨h1,_⟩ |⟨a,len,cap,m,n,D,Pl,h1,_,hle,hm,hmm,_,hx⟩
 ·exact .inl h1
 ·simp only [if_true] at hmm
  subst hmm
  have spot:0<m→a=⟨a.block,a.off,none⟩∧a.block<W.heap.size:=fun h0=>by
   obtain ⟨cs',h2,_⟩:=hx 0 h0
   rw [hc] at h2
   obtain ⟨_,g2,g3⟩:=World.cells?_some h2
   have h4:=g3 0 hsz
   rw [List.getElem?_eq_getElem (by omega),Nat.zero_mul] at h4
   have e0:(a.add 0).add 0=a:=by simp [Addr.add]
   rw [e0] at h4
   have h5:=World.cell?_spot h4
   exact ⟨by cases a;simp_all,Q0 h4⟩
  refine .inr ⟨a,len,m,h1,hle,hm,spot,fun i hi => ?_⟩
  obtain ⟨cs',h2,h3⟩:=hx i (by omega)
  rw [hc] at h2
  obtain ⟨_,g2,g3⟩:=World.cells?_some h2
  refine ⟨cs',n,_,h3,g2,fun j u hj => ?_⟩
  have hjl:j<te.size:=by rw [← g2];exact (List.getElem?_eq_some_iff.1 hj).1
  have h4:=g3 j hjl
  rw [hj,V9] at h4
  have hs:=(spot (by omega)).1
  have hadd:a.add (i * te.size + j)=⟨a.block,a.off + (i * te.size + j),none⟩:=by
   unfold Addr.add
   split
   ·rename_i h;rw [h,Nat.add_zero];exact hs
   ·rfl
  rw [hadd] at h4
  exact h4
theorem AO (hT:bf P T) {t e:TypeId} {td te:pO} (ht:T t=some td) (hd:td.desc = .slice e) (he:T e=some te) (hsz:0<te.size) {f:Nat} {ks:List Kd} (hk:lF T f e=some ks) {fuel:Nat} {cs:List Value} {x:DataW H×List MemPlace}
  (hf:DataW.trod enc P W 0 (fun _=>true) true fuel t cs=some x) {b0:Nat} (hb0:b0<W.heap.size) {E:Type} (cells:E→List Value) (dec:∀ cs,Fits ks cs→∃ x,cs=cells x) (dflt:E) :
  ∃ (l:List E) (p:Option Addr×Nat),l.length≤maxLen∧cs=[.slice p.1 l.length p.2]∧∃ v,AC.at W (fun k=>k<W.heap.size) (.row te.size l.length fun i=>cells (l.getD i dflt)) p v:=by
 rcases Dy hT ht hd he hsz hf with h1 |⟨a,len,cap,h1,hle,hm,spot,hx⟩
 ·exact ⟨[],(none,0),Nat.zero_le _,h1,_,rfl,.inl ⟨rfl,rfl⟩⟩
 ·have pick:∀ k,k≤len→∃ l:List E,l.length=k∧∀ i,i<k→(cells (l.getD i dflt)).length=te.size∧∀ j u,(cells (l.getD i dflt))[j]? = some u→W.cell? ⟨a.block,a.off + (i * te.size + j),none⟩=some u:=by
   intro k
   induction k with
   | zero=>intro _;exact ⟨[],rfl,fun i hi=>by omega⟩
   | succ k ih =>
    intro hk'
    obtain ⟨l,h2,h3⟩:=ih (by omega)
    obtain ⟨cs',n,y,h4,h5,h6⟩:=hx k (by omega)
    obtain ⟨z,rfl⟩:=dec cs' (jD hT f e ks hk n cs' _ h4)
    refine ⟨l++[z],by simp [h2],fun i hi => ?_⟩
    by_cases hik:i<k
    ·have e1:(l++[z]).getD i dflt=l.getD i dflt:=by simp [List.getD_eq_getElem?_getD,List.getElem?_append_left (show i<l.length by omega)]
     rw [e1];exact h3 i hik
    ·obtain rfl:i=k:=by omega
     have e1:(l++[z]).getD i dflt=z:=by simp [List.getD_eq_getElem?_getD,← h2]
     rw [e1];exact ⟨h5,h6⟩
  obtain ⟨l,hl,hcell⟩:=pick len (Nat.le_refl _)
  refine ⟨l,(some a,cap),by rw [hl];exact Nat.le_trans hle hm,by rw [hl];exact h1,_,rfl,?_⟩
  by_cases h0:0<cap
  ·obtain ⟨s1,s2⟩:=spot h0
   exact .inr ⟨a,a.block,a.off,rfl,by rw [hl];exact hle,fun _=>s1,s2,fun k hk=>by rw [hl] at hk;exact hcell k hk⟩
  ·exact .inr ⟨a,b0,0,rfl,by rw [hl];exact hle,fun h=>absurd h h0,hb0,fun k hk=>by rw [hl] at hk;omega⟩
theorem O8 (hT:bf P T) {t e:TypeId} {td te:pO} (ht:T t=some td) (hd:td.desc = .slice e) (he:T e=some te) (hsz:0<te.size) {v:Value} {fuel:Nat} {x:DataW H×List MemPlace}
  (hf:DataW.trod enc P W 0 (fun _=>true) true fuel t [v]=some x) (hv:Cell.okWide P W .any 0 t v) {E:Type} (ac:E→List AC) (Q:E→Prop)
  (dec:∀ n cs y,DataW.trod enc P W 0 (fun _=>true) true n e cs=some y→cs.length=te.size→∀ b0,b0<W.heap.size→∃ (z:E) (g:Nat→Option Addr×Nat),Q z∧cs=dK 0 (ac z) g∧∀ j y,(ac z)[j]? = some y→∃ v,AC.at W (fun k=>k<W.heap.size) y (g j) v) (dflt:E) :
  ∃ (l:List E) (ad:Nat→Nat→Option Addr×Nat),l.length≤maxLen∧(∀ i,i<l.length→Q (l.getD i dflt))∧Came W v (.deep te.size l.length (fun i=>ac (l.getD i dflt)) ad):=by
 rcases Dy hT ht hd he hsz hf with h1 |⟨a,len,cap,h1,hle,hm,spot,hx⟩
 ·simp only [List.cons.injEq,and_true] at h1
  subst h1
  refine ⟨[],fun _ _=>(none,0),Nat.zero_le _,fun i hi=>absurd hi (Nat.not_lt_zero _),[⟨0,0,0,true,fun _=>0⟩,default],rfl,fun i β0 hβ => ?_⟩
  have hb0:β0 i=⟨0,0,0,true,fun _=>0⟩:=by simpa using hβ 0 _ rfl
  refine ⟨by simp [AD.deep,CV.rel,SV.rel,hb0],fun c ch hc => ?_⟩
  simp only [AD.deep,Mem.get,aL] at hc
  by_cases h1:i=c
  ·subst h1
   simp only [decide_true,cond_true,Option.some.injEq] at hc
   subst hc
   rw [hb0]
   simp [iD,ql]
  ·by_cases h2:i + 1=c
   ·subst h2
    simp only [h1,decide_false,decide_true,cond_true,cond_false,Option.some.injEq] at hc
    subst hc
    exact ⟨fun _=>False,fun _ h=>h.elim,fun i hi=>absurd hi (Nat.not_lt_zero _)⟩
   ·simp [h1,h2] at hc
 ·simp only [List.cons.injEq,and_true] at h1
  subst h1
  have pick:∀ k,k≤len→∃ (l:List E) (ad:Nat→Nat→Option Addr×Nat),l.length=k∧∀ i,i<k→Q (l.getD i dflt)∧(dK 0 (ac (l.getD i dflt)) (ad i)).length=te.size∧(∀ j u,(dK 0 (ac (l.getD i dflt)) (ad i))[j]? = some u→W.cell? ⟨a.block,a.off + (i * te.size + j),none⟩=some u)∧∀ j y,(ac (l.getD i dflt))[j]? = some y→∃ v,AC.at W (fun k=>k<W.heap.size) y (ad i j) v:=by
   intro k
   induction k with
   | zero=>intro _;exact ⟨[],fun _ _=>(none,0),rfl,fun i hi=>by omega⟩
   | succ k ih =>
    intro hk'
    obtain ⟨l,ad,h2,h3⟩:=ih (by omega)
    obtain ⟨cs',n,y,h4,h5,h6⟩:=hx k (by omega)
    obtain ⟨z,g,q1,q2,q3⟩:=dec n cs' y h4 h5 a.block (spot (by omega)).2
    subst q2
    refine ⟨l++[z],fun i=>if i=k then g else ad i,by simp [h2],fun i hi => ?_⟩
    by_cases hik:i<k
    ·have e1:(l++[z]).getD i dflt=l.getD i dflt:=by simp [List.getD_eq_getElem?_getD,List.getElem?_append_left (show i<l.length by omega)]
     dsimp only
     rw [e1,if_neg (by omega)];exact h3 i hik
    ·obtain rfl:i=k:=by omega
     have e1:(l++[z]).getD i dflt=z:=by simp [List.getD_eq_getElem?_getD,← h2]
     dsimp only
     rw [e1,if_pos rfl];exact ⟨q1,h5,h6,q3⟩
  obtain ⟨l,ad,hl,hcell⟩:=pick len (Nat.le_refl _)
  refine ⟨l,ad,by rw [hl];exact Nat.le_trans hle hm,fun i hi=>(hcell i (by omega)).1,?_⟩
  have hu:=dh hT ht hd
  have hsp:a.spot=none∧a.block<W.heap.size:=by
   simp only [hu,Cell.okWide,Cell.ok] at hv
   obtain ⟨_,_,_,hs,row,cells',hsh,_⟩:=hv
   refine ⟨hs,?_⟩
   unfold World.shape? at hsh
   split at hsh
   ·rename_i hb
    exact (Array.getElem?_eq_some_iff.1 hb).1
   ·cases hsh
  have s1:a=⟨a.block,a.off,none⟩:=by cases a;simp_all
  have s2:=hsp.2
  refine ⟨[⟨a.block,a.off,cap,false,fun _=>0⟩,default],rfl,fun i β0 hβ => ?_⟩
  have hb0:β0 i=⟨a.block,a.off,cap,false,fun _=>0⟩:=by simpa using hβ 0 _ rfl
  refine ⟨?_,fun c ch hc => ?_⟩
  ·simp only [AD.deep,CV.rel,SV.rel,hb0,Bool.false_eq_true,if_false]
   exact ⟨a,by rw [hl,Nat.sub_zero],by omega,fun _=>by simp only [Loc.addr,Nat.zero_mul,Nat.add_zero];exact s1⟩
  ·simp only [AD.deep,Mem.get,aL] at hc
   by_cases h1:i=c
   ·subst h1
    simp only [decide_true,cond_true,Option.some.injEq] at hc
    subst hc
    rw [hb0]
    simp only [iD,ql,Bool.false_eq_true,if_false]
    exact ⟨⟨s2,trivial⟩,fun k hk=>by rw [hl] at hk;exact ⟨(hcell k hk).2.1,(hcell k hk).2.2.1⟩⟩
   ·by_cases h2:i + 1=c
    ·subst h2
     simp only [h1,decide_false,decide_true,cond_true,cond_false,Option.some.injEq] at hc
     subst hc
     exact ⟨fun k=>k<W.heap.size,fun k hk=>⟨hk,trivial⟩,fun k hk=>by rw [hl] at hk;exact (hcell k hk).2.2.2⟩
    ·simp [h1,h2] at hc
end
end Go.Sx
