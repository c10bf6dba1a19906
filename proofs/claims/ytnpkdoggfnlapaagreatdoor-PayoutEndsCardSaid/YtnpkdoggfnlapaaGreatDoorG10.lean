/- Parts SxZc SxZd SxZe. -/
import Derived.Test.YtnpkdoggfnlapaaGreatDoorG09
set_option linter.unusedSimpArgs false
set_option linter.unusedVariables false
namespace Go.Sx
open Go.RowKit
section
variable {P:Program} {S:St} {d:Nat} {o:Oper}
def ptrs (caps:List Nat):List CV:=caps.map fun c => .one (.ptr c 0 0 0)
theorem iB.append {β:Nat→Loc}:∀ {a b:List CV} {x y:List Value},iB β a x→iB β b y→iB β (a++b) (x++y)
 | [],_,_,_,h,h'=>by cases h;exact h'
 | _::_,_,_,_,h,h'=>by obtain ⟨v,r,rfl,h1,h2⟩:=h;exact ⟨v,_,rfl,h1,h2.append h'⟩
theorem NN (β:Nat→Loc):∀ caps:List Nat,iB β (ptrs caps) (caps.map fun c=>Value.pointer (some ((β c).addr 0)))
 | []=>rfl
 | c::r=>⟨_,_,rfl,by simp [CV.rel,SV.rel],NN β r⟩
end
def Ee:Nat→List (Chunk×Chunk)→Mem
 | _,[]=>[]
 | i,x::r=>(i,x.1)::Ee (i + 1) r
def sW:Nat→List (Chunk×Chunk)→Mem
 | _,[]=>[]
 | i,x::r=>(i,x.2)::sW (i + 1) r
def postC:List Nat→List (Chunk×Chunk)→Mem
 | c::cs,x::r=>(c,x.2)::postC cs r
 | _,_=>[]
def tu:Nat→List (Chunk×Chunk)→List CV
 | _,[]=>[]
 | i,_::r => .one (.ptr i 0 0 0)::tu (i + 1) r
def UR (d:Nat):Option Chunk→Mem
 | some ch=>[(d,ch)]
 | none=>[]
def YA (fr:Option Chunk) (X:XV):Bool:=match fr with |some ch=>X.ok (fun j=>Nat.beq 0 j) && ch.closed && !ch.fD |none=>X.ok fun _=>false
def Va (os:List (Chunk×Chunk)):Bool:=os.all fun x=>x.1.closed && x.2.closed && !x.1.fD && !x.2.fD
theorem Da:∀ {os:List (Chunk×Chunk)} {i c:Nat} {ch:Chunk},(Ee i os).get c=some ch→i≤c∧c<i + os.length∧∃ x,os[c - i]? = some x∧ch=x.1
 | [],i,c,ch,h=>by simp [Ee,Mem.get] at h
 | x::r,i,c,ch,h=>by
  simp only [Ee,Mem.get,aL] at h
  by_cases hi:i=c
  ·subst hi
   simp only [decide_true,cond_true,Option.some.injEq] at h
   exact ⟨Nat.le_refl _,by simp,x,by simp,h.symm⟩
  ·simp only [hi,decide_false,cond_false] at h
   obtain ⟨h1,h2,y,h3,h4⟩:=Da h
   exact ⟨by omega,by simp only [List.length_cons];omega,y,by rw [show c - i=(c - (i + 1)) + 1 by omega,List.getElem?_cons_succ];exact h3,h4⟩
theorem uG:∀ {os:List (Chunk×Chunk)} {i c:Nat} {ch:Chunk},(sW i os).get c=some ch↔i≤c∧∃ x,os[c - i]? = some x∧ch=x.2
 | [],i,c,ch=>by simp [sW,Mem.get]
 | x::r,i,c,ch=>by
  simp only [sW,Mem.get,aL]
  by_cases hi:i=c
  ·subst hi
   simp only [decide_true,cond_true,Option.some.injEq,Nat.le_refl,Nat.sub_self,List.getElem?_cons_zero,true_and]
   exact ⟨fun h=>⟨x,rfl,h.symm⟩,fun ⟨y,h1,h2⟩=>by rw [h2,h1]⟩
  ·simp only [hi,decide_false,cond_false]
   rw [uG]
   constructor
   ·rintro ⟨h1,y,h2,h3⟩
    exact ⟨by omega,y,by rw [show c - i=(c - (i + 1)) + 1 by omega,List.getElem?_cons_succ];exact h2,h3⟩
   ·rintro ⟨h1,y,h2,h3⟩
    exact ⟨by omega,y,by rw [show c - i=(c - (i + 1)) + 1 by omega,List.getElem?_cons_succ] at h2;exact h2,h3⟩
theorem FC:∀ {cs:List Nat} {os:List (Chunk×Chunk)} {c:Nat} {ch:Chunk},cs.Nodup→(postC cs os).get c=some ch→∃ (i:Nat) (x:Chunk×Chunk),cs[i]? = some c∧os[i]? = some x∧ch=x.2
 | [],_,c,ch,_,h=>by simp [postC,Mem.get] at h
 | _::_,[],c,ch,_,h=>by simp [postC,Mem.get] at h
 | c0::cs,x::r,c,ch,hn,h=>by
  simp only [postC,Mem.get,aL] at h
  by_cases hi:c0=c
  ·subst hi
   simp only [decide_true,cond_true,Option.some.injEq] at h
   exact ⟨0,x,rfl,rfl,h.symm⟩
  ·simp only [hi,decide_false,cond_false] at h
   obtain ⟨i,y,h1,h2,h3⟩:=FC (List.nodup_cons.1 hn).2 h
   exact ⟨i + 1,y,by simpa using h1,by simpa using h2,h3⟩
theorem GD {d c:Nat} {fr:Option Chunk} {ch:Chunk}:(UR d fr).get c=some ch↔c=d∧fr=some ch:=by
 cases fr with
 | none=>simp [UR,Mem.get]
 | some x =>
  simp only [UR,Mem.get,aL]
  by_cases h:d=c
  ·subst h;simp
  ·simp [h];intro e;exact absurd e.symm h
theorem Db:∀ (os:List (Chunk×Chunk)) (i:Nat),tu i os=ptrs (List.range' i os.length)
 | [],i=>rfl
 | _::r,i=>by simp only [tu,List.length_cons,List.range'_succ,ptrs,List.map_cons];rw [Db r];rfl
def Does (P:Program) (f:FuncId) (os:List (Chunk×Chunk)) (l:List AD) (es:List iX) (X:XV) (fr:Option Chunk):Prop :=
 ∃ d,aC P f (tu 0 os++jl os.length l) (Ee 0 os++qx es os.length l) d { v:=X.ren fun _=>d,upd:=sW 0 os++UR d fr,wr:=List.range os.length } (List.range (os.length + (fu l + es.length)))∧os.length + (fu l + es.length)≤d∧YA fr X=true∧Va os=true
theorem R9 {fr:Option Chunk} {X:XV} (h:YA fr X=true):X.ok (fun j=>Nat.beq 0 j)=true∧(fr=none→X.ok (fun _=>false)=true)∧(∀ ch,fr=some ch→ch.closed=true∧ch.fD=false):=by
 cases fr with
 | none=>exact ⟨XV.aG (fun _ h=>by cases h) h,fun _=>h,(fun _ h=>by cases h)⟩
 | some ch =>
  simp only [YA,Bool.and_eq_true,Bool.not_eq_true'] at h
  exact ⟨h.1.1,(fun h=>by cases h),(fun ch' e=>by cases e;exact ⟨h.1.2,h.2⟩)⟩
theorem yI {os:List (Chunk×Chunk)} (h:Va os=true) {i:Nat} {x:Chunk×Chunk} (hx:os[i]? = some x):x.1.closed=true∧x.2.closed=true∧x.1.fD=false∧x.2.fD=false:=by
 simp only [Va,List.all_eq_true,Bool.and_eq_true,Bool.not_eq_true'] at h
 obtain ⟨⟨⟨h1,h2⟩,h3⟩,h4⟩:=h x (List.mem_of_getElem? hx)
 exact ⟨h1,h2,h3,h4⟩
theorem RO {l:List Nat} (hl:l.Nodup) {c i:Nat}:lidx c l=some i↔l[i]? = some c:=⟨fM,cB hl⟩
theorem iB.JQ {β:Nat→Loc}:∀ {cs:List Nat} {Xs:List CV} {vs:List Value},iB β (ptrs cs++Xs) vs→∃ t,vs=(cs.map fun c=>Value.pointer (some ((β c).addr 0)))++t∧iB β Xs t
 | [],_,vs,h=>⟨vs,rfl,h⟩
 | c::cs,_,vs,h=>by
  obtain ⟨v,r,rfl,h1,h2⟩:=h
  obtain ⟨t,rfl,h3⟩:=iB.JQ h2
  refine ⟨t,?_,h3⟩
  simp only [CV.rel,SV.rel] at h1
  rw [h1];simp
theorem Does.at {P:Program} {f:FuncId} {os:List (Chunk×Chunk)} {l:List AD} {es:List iX} {X:XV} {fr:Option Chunk} (h:Does P f os l es X fr) {Xs:List CV} {M:Mem} {d:Nat} (cs rd:List Nat) (hcs:cs.length=os.length) (hnd:(cs++[d]).Nodup) (hrd:(cs.all fun c => !gI c rd)=true)
  (hc:∀ (i c:Nat) (x:Chunk×Chunk),cs[i]? = some c→os[i]? = some x→M.get c=some x.1) (ha:lg M rd Xs l) (he:lq M rd es) :
  aC P f (ptrs cs++Xs) M d { v:=X.ren fun _=>d,upd:=postC cs os++UR d fr,wr:=cs } (cs++rd):=by
 obtain ⟨d0,h1,hd0,h2,h3⟩:=h
 obtain ⟨x1,x2,x3⟩:=R9 h2
 have hn:cs.Nodup:=(List.nodup_append.1 hnd).1
 have hcd:d ∉ cs:=fun hm=>(List.nodup_append.1 hnd).2.2 d hm d (by simp) rfl
 have hcr:∀ c∈cs,c ∉ rd:=fun c hc hm=>by
  have:=List.all_eq_true.1 hrd c hc
  rw [(bH c rd).2 hm] at this;cases this
 intro β ow w vs hw hfr hvs hr
 obtain ⟨t,rfl,ht⟩:=iB.JQ hvs
 let ow0:Nat→Option Nat:=fun k=>(ow k).bind fun c=>lidx c cs
 have how0:∀ k i,ow0 k=some i↔∃ c,ow k=some c∧cs[i]? = some c:=fun k i=>by
  simp only [ow0,Option.bind_eq_some_iff,RO hn]
 have hB:∀ k,Free rd ow k→ow0 k=none:=by
  intro k hk
  cases h0:ow0 k with
  | none=>rfl
  | some i =>
   obtain ⟨c,g1,g2⟩:=(how0 k i).1 h0
   rcases hk with hk |⟨q,hq,hk⟩
   ·rw [hk] at g1;cases g1
   ·rw [hk] at g1;cases g1
    exact absurd hq (hcr c (List.mem_of_getElem? g2))
 obtain ⟨β0,e0,e1,e2⟩:=GU ha he os.length hw ht (fun q hq ch hch=>hr q (by simp [hq]) ch hch) (fun i=>β (cs.getD i 0)) ow0 hB
 have hb0:∀ i c,cs[i]? = some c→β0 i=β c:=fun i c hi=>by
  rw [e0 i (by rw [← hcs];exact (List.getElem?_eq_some_iff.1 hi).1),List.getD_eq_getElem?_getD,hi];rfl
 have hin:∀ (i c:Nat) (x:Chunk×Chunk),cs[i]? = some c→os[i]? = some x→Holds β0 ow0 w i x.1:=fun i c x hi hx=>by
  obtain ⟨k1,_,k3,_⟩:=yI h3 hx
  refine Holds.move (β:=β) (ow:=ow) (c:=c) k1 (hb0 i c hi) (fun _ k => ?_) (fun e=>by rw [k3] at e;cases e) (hr c (by simp [List.mem_of_getElem? hi]) _ (hc i c x hi hx))
  rw [how0]
  exact ⟨fun ⟨c',g1,g2⟩=>by rw [hi] at g2;cases g2;exact g1,fun g=>⟨c,g,hi⟩⟩
 have hget:∀ i,i<os.length→∃ c,cs[i]? = some c:=fun i hi=>⟨cs[i]'(by omega),List.getElem?_eq_getElem (by omega)⟩
 have hargs:iB β0 (tu 0 os++jl os.length l) ((cs.map fun c=>Value.pointer (some ((β c).addr 0)))++t):=by
  rw [Db]
  refine iB.append ?_ e1
  have e:(cs.map fun c=>Value.pointer (some ((β c).addr 0)))=(List.range' 0 os.length).map fun c=>Value.pointer (some ((β0 c).addr 0)):=by
   apply List.ext_getElem?
   intro i
   by_cases hi:i<os.length
   ·obtain ⟨c,hci⟩:=hget i hi
    simp only [List.getElem?_map,hci,Option.map_some,List.getElem?_range' hi,Nat.zero_add,Nat.one_mul,hb0 i c hci]
   ·rw [List.getElem?_eq_none (by simp;omega),List.getElem?_eq_none (by simp;omega)]
  rw [e]
  exact NN β0 _
 refine (h1 β0 ow0 w _ (fun k hk => ?_) (fun k hk => ?_) hargs (fun q _ ch0 hq => ?_)).mono ?_
 ·cases h0:ow0 k with
  | none=>exact absurd h0 hk
  | some i=>obtain ⟨c,g1,_⟩:=(how0 k i).1 h0;exact hw k (by simp [g1])
 ·obtain ⟨c,_,g2⟩:=(how0 k d0).1 hk
  have:=(List.getElem?_eq_some_iff.1 g2).1
  omega
 ·rw [Mem.get_append] at hq
  cases hm:(Ee 0 os).get q with
  | some ch =>
   rw [hm] at hq
   simp only [Option.some_or,Option.some.injEq] at hq
   obtain ⟨_,g2,x,g3,g4⟩:=Da hm
   simp only [Nat.zero_add,Nat.sub_zero] at g2 g3
   obtain ⟨c,hci⟩:=hget q g2
   rw [← hq,g4]
   exact hin q c x hci g3
  | none =>
   rw [hm] at hq
   exact e2 q ch0 (by simpa using hq)
 rintro e w' ⟨v,β',ow',rfl,E,r1,r2⟩
 have hb':∀ i c,cs[i]? = some c→β' i=β c:=fun i c hi=>by
  have:=(List.getElem?_eq_some_iff.1 hi).1
  rw [E.beta i (by omega),hb0 i c hi]
 let β2:=aX β d (β' d0)
 let ow2:Nat→Option Nat:=fun k=>match ow' k with |some i=>if i=d0 then some d else cs[i]? | none=>if (ow0 k).isSome then none else ow k
 have hlt:∀ i c,cs[i]? = some c→i<os.length:=fun i c hi=>by rw [← hcs];exact (List.getElem?_eq_some_iff.1 hi).1
 have ho2:∀ i c,cs[i]? = some c→∀ k,ow2 k=some c↔ow' k=some i:=fun i c hi k=>by
  have hil:=hlt i c hi
  have hcm:c∈cs:=List.mem_of_getElem? hi
  cases hk:ow' k with
  | some j =>
   simp only [ow2,hk,Option.some.injEq]
   by_cases hj:j=d0
   ·rw [if_pos hj]
    simp only [Option.some.injEq]
    exact ⟨fun e=>absurd (e▸hcm) hcd,fun e=>by omega⟩
   ·rw [if_neg hj]
    exact ⟨fun e=>by
     have a1:=cB hn e
     have a2:=cB hn hi
     rw [a1] at a2;cases a2;rfl,fun e=>e▸hi⟩
  | none =>
   simp only [ow2,hk]
   refine ⟨fun h => ?_,fun h=>by cases h⟩
   by_cases h0:(ow0 k).isSome=true
   ·rw [if_pos h0] at h;cases h
   ·rw [if_neg h0] at h
    have:ow0 k=some i:=(how0 k i).2 ⟨c,h,hi⟩
    rw [this] at h0;exact absurd rfl h0
 have hod:∀ k,ow2 k=some d↔ow' k=some d0:=fun k=>by
  cases hk:ow' k with
  | some j =>
   simp only [ow2,hk,Option.some.injEq]
   by_cases hj:j=d0
   ·rw [if_pos hj];simp [hj]
   ·rw [if_neg hj]
    exact ⟨fun e=>absurd (List.mem_of_getElem? e) hcd,fun e=>absurd e hj⟩
  | none =>
   simp only [ow2,hk]
   refine ⟨fun h => ?_,fun h=>by cases h⟩
   by_cases h0:(ow0 k).isSome=true
   ·rw [if_pos h0] at h;cases h
   ·rw [if_neg h0] at h;exact absurd h (hfr k)
 have hnone:∀ k,ow2 k≠none→ow' k≠none∨(ow2 k=ow k∧ow0 k=none):=fun k hk=>by
  cases hk':ow' k with
  | some j=>exact .inl (by simp)
  | none =>
   right
   simp only [ow2,hk'] at hk ⊢
   by_cases h0:(ow0 k).isSome=true
   ·rw [if_pos h0] at hk;exact absurd rfl hk
   ·rw [if_neg h0]
    exact ⟨rfl,by simpa using h0⟩
 refine ⟨v,β2,ow2,rfl,⟨fun c hc=>by simp [β2,aX,hc],E.os,E.tape,E.output,E.size,fun k hk hn' => ?_,fun k hk c' hc' => ?_,fun k hk => ?_⟩,?_,fun q chq hq => ?_⟩
 ·have hz:ow0 k=none:=by
   cases h0:ow0 k with
   | none=>rfl
   | some i=>obtain ⟨c,g1,g2⟩:=(how0 k i).1 h0;exact absurd g1 (hn' c (List.mem_of_getElem? g2))
  obtain ⟨m1,m2⟩:=E.keep k hk (fun c0 _ e=>by rw [hz] at e;cases e)
  refine ⟨m1,?_⟩
  simp only [ow2,m2,hz]
  simp
 ·cases hk':ow' k with
  | some j =>
   simp only [ow2,hk'] at hc'
   by_cases hj:j=d0
   ·rw [if_pos hj] at hc';cases hc';exact .inr rfl
   ·rw [if_neg hj] at hc';exact .inl (List.mem_of_getElem? hc')
  | none =>
   simp only [ow2,hk'] at hc'
   by_cases h0:(ow0 k).isSome=true
   ·rw [if_pos h0] at hc';cases hc'
   ·rw [if_neg h0] at hc'
    rcases hk with hk |⟨c0,h0',hk⟩
    ·have:=hw k (by simp [hc']);omega
    ·exfalso
     obtain ⟨i,hi⟩:=List.getElem?_of_mem h0'
     exact h0 (by rw [(how0 k i).2 ⟨c0,hk,hi⟩];rfl)
 ·rcases hnone k hk with h |⟨h,_⟩
  ·exact E.wf k h
  ·rw [h] at hk;exact Nat.lt_of_lt_of_le (hw k hk) E.size
 ·have e3:=(XV.jA (β:=β') (ρ:=fun _=>d0) X v).1 r1
  refine (XV.jA (β:=β2) (ρ:=fun _=>d) X v).2 ?_
  refine XV.aW (p:=fun j=>Nat.beq 0 j) (fun c _ => ?_) x1 e3
  simp [β2,aX]
 ·rw [Mem.get_append] at hq
  cases hm:(postC cs os).get q with
  | some ch =>
   rw [hm] at hq
   simp only [Option.some_or,Option.some.injEq] at hq
   obtain ⟨i,x,g1,g2,g3⟩:=FC hn hm
   obtain ⟨_,k2,_,k4⟩:=yI h3 g2
   have hqd:q≠d:=fun e=>hcd (e▸List.mem_of_getElem? g1)
   rw [← hq,g3]
   refine Holds.move (β:=β') (ow:=ow') (c:=i) k2 (by simp [β2,aX,hqd,hb' i q g1]) (fun _ k=>ho2 i q g1 k) (fun e=>by rw [k4] at e;cases e) (r2 i x.2 ?_)
   rw [Mem.get_append,uG.2 ⟨Nat.zero_le _,x,g2,rfl⟩];rfl
  | none =>
   rw [hm] at hq
   obtain ⟨rfl,hf⟩:=GD.1 (show (UR d fr).get q=some chq by simpa using hq)
   obtain ⟨k1,k2⟩:=x3 chq hf
   refine Holds.move (β:=β') (ow:=ow') (c:=d0) k1 (by simp [β2,aX]) (fun _ k=>hod k) (fun e=>by rw [k2] at e;cases e) (r2 d0 chq ?_)
   have hp:(sW 0 os).get d0=none:=by
    cases hpp:(sW 0 os).get d0 with
    | none=>rfl
    | some ch =>
     obtain ⟨_,x,g1,_⟩:=uG.1 hpp
     have:=(List.getElem?_eq_some_iff.1 g1).1
     omega
   rw [Mem.get_append,hp,GD.2 ⟨rfl,hf⟩];rfl
theorem Does.of {P:Program} {T:aU} {f:FuncId} {fn:Func} {c:Code} (hT:bf P T) (hf:P.funcs[f]? = some fn) (hb:fn.body=some c) (os:List (Chunk×Chunk)) (l:List AD) (es:List iX) (X:XV) (fr:Option Chunk) (hos:Va os=true) (hX:YA fr X=true)
  (hXl:(jl os.length l).all (CV.ok fun i=>Nat.blt i (os.length + (fu l + es.length)))=true) (i:Nat)
  (h:∀ C:Ctx,C.n0=os.length + (fu l + es.length)→av P C c ⟨fV fn.ntmps ((tu 0 os++jl os.length l).map .cv),Ee 0 os++qx es os.length l,os.length + (fu l + es.length)⟩ (Ends C T fn.results.toList os.length (os.length + (fu l + es.length)) ⟨X.ren fun _=>i,sW 0 os,fr.map fun ch=>(i,ch)⟩)):Does P f os l es X fr:=by
 obtain ⟨x1,x2,x3⟩:=R9 hX
 let k:=os.length
 let m:=fu l + es.length
 have hi:∀ i,i<k + m→(List.range k++(List.range m).map (· + k))[i]? = some i:=by
  intro i hi
  by_cases h0:i<k
  ·rw [List.getElem?_append_left (by simpa using h0)];simp [h0]
  ·rw [List.getElem?_append_right (by simp;omega)]
   have:i - k<m:=by omega
   simp [this];omega
 have hall:(tu 0 os++jl k l).all (CV.ok fun i=>Nat.blt i (k + m))=true:=by
  rw [List.all_append,Bool.and_eq_true]
  refine ⟨?_,hXl⟩
  rw [Db,List.all_eq_true]
  intro x hx
  simp only [ptrs,List.mem_map,List.mem_range'_1] at hx
  obtain ⟨j,hj,rfl⟩:=hx
  simp only [CV.ok,SV.ok,Nat.blt_eq];omega
 have hren:(tu 0 os++jl k l)=(tu 0 os++jl k l).map (CV.ren fun i=>((List.range k++(List.range m).map (· + k))[i]?).getD (k + m)):=by
  rw [iB.eu (ρ':=id) (p:=fun i=>Nat.blt i (k + m)) (fun c hc=>by simp only [Nat.blt_eq] at hc;rw [hi c hc];rfl) hall,iB.mG]
 have hrange:List.range (k + m)=List.range k++(List.range m).map (· + k):=by
  apply List.ext_getElem?
  intro j
  by_cases hj:j<k + m
  ·rw [hi j hj];simp [hj]
  ·rw [List.getElem?_eq_none (by simp;omega),List.getElem?_eq_none (by simp;omega)]
 refine ⟨k + m,?_,Nat.le_refl _,hX,hos⟩
 have hupm:∀ i ch,(sW 0 os).get i=some ch→i<k∧∃ x,os[i]? = some x∧ch=x.2:=fun i ch hm=>by
  obtain ⟨_,x,g1,g2⟩:=uG.1 hm
  exact ⟨(List.getElem?_eq_some_iff.1 g1).1,x,g1,g2⟩
 show aC P f (tu 0 os++jl k l) (Ee 0 os++qx es k l) (k + m) _ (List.range (k + m))
 rw [hrange]
 refine fE (ids:=List.range k) (rids:=(List.range m).map (· + k)) (Xl:=tu 0 os++jl k l) (M0:=Ee 0 os++qx es k l) (out:=⟨X.ren fun _=>i,sW 0 os,fr.map fun ch=>(i,ch)⟩) (k1:=k) (n0:=k + m) hT hf hb List.nodup_range (by simp) (by simp) (by rw [← hrange];simp) hall (fun j ch0 hm => ?_) (fun j ch0 hm => ?_) (fun j ch0 hm => ?_) ?_ h hren ?_ rfl (fun q chq hq => ?_)
 ·have hm':=hm
  rw [Mem.get_append] at hm
  cases hp:(Ee 0 os).get j with
  | some ch =>
   rw [hp] at hm
   simp only [Option.some_or,Option.some.injEq] at hm
   obtain ⟨_,g2,x,g3,g4⟩:=Da hp
   simp only [Nat.zero_add,Nat.sub_zero] at g2 g3
   obtain ⟨k1,_,k3,_⟩:=yI hos g3
   refine ⟨by simp only [k];omega,by rw [← hm,g4];exact k1,fun h=>by simp only [k] at h;omega,fun ci hci => ?_⟩
   rw [hi j (by simp only [k];omega)] at hci
   cases hci;exact hm'
  | none =>
   rw [hp] at hm
   obtain ⟨q1,q2,q3,_⟩:=pQ (show (qx es os.length l).get j=some ch0 by simpa using hm)
   refine ⟨by simp only [k,m];omega,?_,fun _=>q3,fun ci hci => ?_⟩
   ·cases ch0<;>first |rfl |cases q3
   ·rw [hi j (by simp only [k,m];omega)] at hci
    cases hci;exact hm'
 ·obtain ⟨_,x,g1,g2⟩:=hupm j ch0 hm
  obtain ⟨_,k2,_,k4⟩:=yI hos g1
  rw [g2];exact ⟨k2,k4⟩
 ·simp only [Option.map_eq_some_iff,Prod.mk.injEq] at hm
  obtain ⟨ch,g1,_,rfl⟩:=hm
  exact x3 ch g1
 ·cases fr with
  | none =>
   have:=x2 rfl
   rw [XV.aM this]
   exact XV.aG (fun _ h=>by cases h) this
  | some ch =>
   have hs:∀ s:SV,s.ok (fun j=>Nat.beq 0 j)=true→(s.ren fun _=>i).ok (fun j=>Nat.blt j (k + m) || Nat.beq i j)=true:=by
    intro s _
    rw [SV.GX]
    cases s with
    | fn f caps=>simp [SV.ok]
    | _=>simp [SV.ok]
   have hc:∀ s:CV,s.ok (fun j=>Nat.beq 0 j)=true→(s.ren fun _=>i).ok (fun j=>Nat.blt j (k + m) || Nat.beq i j)=true:=by
    intro s hk
    cases s with
    | one s=>exact hs s hk
    | agg cs =>
     simp only [CV.ren,CV.ok,List.all_map,List.all_eq_true] at hk ⊢
     exact fun s hm=>hs s (hk s hm)
   show (X.ren fun _=>i).ok (fun j=>Nat.blt j (k + m) || Nat.beq i j)=true
   cases X with
   | cv s=>exact hc s x1
   | tup cs =>
    simp only [XV.ren,XV.ok,List.all_map,List.all_eq_true] at x1 ⊢
    exact fun s hm=>hc s (x1 s hm)
 ·show X.ren (fun _=>k + m)=(X.ren fun _=>i).ren _
  cases fr with
  | none =>
   have:=x2 rfl
   rw [XV.aM this,XV.aM this,XV.aM this]
  | some ch =>
   have hr:gX (List.range k++(List.range m).map (· + k)) (k + m) ((some ch).map fun ch=>(i,ch)) i=k + m:=by simp [gX]
   have hs:∀ s:SV,(s.ren fun _=>i).ren (gX (List.range k++(List.range m).map (· + k)) (k + m) ((some ch).map fun ch=>(i,ch)))=s.ren fun _=>k + m:=by
    intro s
    cases s with
    | fn f caps=>simp only [SV.ren,List.map_map];congr 1;apply List.map_congr_left;intro c _;exact hr
    | _=>simp only [SV.ren,hr]
   have hc:∀ s:CV,(s.ren fun _=>i).ren (gX (List.range k++(List.range m).map (· + k)) (k + m) ((some ch).map fun ch=>(i,ch)))=s.ren fun _=>k + m:=by
    intro s
    cases s with
    | one s=>simp only [CV.ren,hs]
    | agg cs=>simp only [CV.ren,List.map_map];congr 1;apply List.map_congr_left;intro s _;exact hs s
   cases X with
   | cv s=>simp only [XV.ren,hc]
   | tup cs=>simp only [XV.ren,List.map_map];congr 1;apply List.map_congr_left;intro s _;exact (hc s).symm
 ·rw [Mem.get_append] at hq
  cases hp:(sW 0 os).get q with
  | some ch =>
   rw [hp] at hq
   simp only [Option.some_or,Option.some.injEq] at hq
   obtain ⟨g1,_⟩:=hupm q ch hp
   exact .inl ⟨q,by simp [g1],by rw [← hq];exact hp⟩
  | none =>
   rw [hp] at hq
   obtain ⟨rfl,hf⟩:=GD.1 (show (UR (k + m) fr).get q=some chq by simpa using hq)
   exact .inr ⟨rfl,i,by simp [hf]⟩
open Go.RowKit
theorem Chunk.aM {ρ:Nat→Nat} {ch:Chunk} (h:ch.closed=true):ch.ren ρ=ch:=by
 cases ch with
 | cells e cs=>simp only [Chunk.ren,SVs.aM h]
 | _=>rfl
theorem Chunk.um {p:Nat→Bool} {ch:Chunk} (h:ch.closed=true):ch.ok p=true:=by
 cases ch with
 | cells e cs=>exact SVs.aG (fun _ h=>by cases h) h
 | _=>rfl
def mK (l:List Chunk):mQ where
 Φ w b s O:=∃ (β:Nat→Loc) (ow:Nat→Option Nat),WF ow w∧(∀ k,O k↔ow k≠none)∧(∀ j,j<l.length→β j=(Loc.mk b 0 (s 0) false fun j=>s (j + 1)).inner l.length j)∧(∀ k c,ow k=some c→c<l.length)∧(∀ (j:Nat) (ch:Chunk),l[j]? = some ch→ch.fD=false∧ch.closed=true)∧∀ (j:Nat) (ch:Chunk),l[j]? = some ch→Holds β ow w j ch
 loc:=by
  rintro w w' b s O O' hk hO ⟨β,ow,h1,h2,h3,h4,h5,h6⟩
  have same:∀ k,ow k≠none→w'.heap[k]? = w.heap[k]?:=fun k h=>hk k ((h2 k).2 h)
  refine ⟨β,ow,fun k h => ?_,fun k=>(hO k).trans (h2 k),h3,h4,h5,fun j ch hj => ?_⟩
  ·have e:=same k h
   rw [Array.getElem?_eq_getElem (h1 k h)] at e
   exact (Array.getElem?_eq_some_iff.1 e).1
  ·obtain ⟨k1,k2⟩:=h5 j ch hj
   have:=Holds.trans (β:=β) (β':=β) (ow:=ow) (ow':=ow) (w:=w) (w':=w') (c:=j) (c':=j) (ρ:=id) (ch:=ch) (p:=fun _=>true) (Chunk.um k2) (fun _ _=>rfl) rfl rfl rfl (.inl ⟨rfl,rfl⟩) k1 (fun _=>Iff.rfl) (fun k hk=>same k (by simp [hk])) (h6 j ch hj)
   rwa [Chunk.aM k2] at this
 in_heap:=by
  rintro w b s O ⟨β,ow,h1,h2,_⟩ k hk
  exact h1 k ((h2 k).1 hk)
def u6 (l:List Chunk) (k:Nat):Bool:=match vZ l k with |some (.vec _ _ _ _)=>true |_=>false
def vC (ids:List Nat) (l:List Chunk) (d:Nat):SV→SV
 | .slc c sz lo len=>match lidx c ids with |some j=>bif Nat.beq lo 0 then .ins d ids.length j len else .slc c sz lo len |none => .slc c sz lo len
 | .ptr c i sz j=>match lidx c ids with |some k=>bif Nat.beq (i * sz + j) 0 && !u6 l k then .inn d k else .ptr c i sz j |none => .ptr c i sz j
 | s=>s
def Fq (ids:List Nat) (l:List Chunk) (d:Nat):CV→CV
 | .one s => .one (vC ids l d s)
 | .agg cs => .agg (cs.map (vC ids l d))
def JH (ids:List Nat) (l:List Chunk) (d:Nat):XV→XV
 | .cv c => .cv (Fq ids l d c)
 | .tup cs => .tup (cs.map (Fq ids l d))
section
variable {β β':Nat→Loc} {ids:List Nat} {l:List Chunk} {d:Nat} {p:Nat→Bool}
structure Packs (β β':Nat→Loc) (ids:List Nat) (l:List Chunk) (d:Nat) (p:Nat→Bool):Prop where
 old:∀ c,p c=true→β' c=β c
 inn:∀ (j c:Nat),ids[j]? = some c→((β' d).inner ids.length j).blk=(β c).blk∧((β' d).inner ids.length j).cap=(β c).cap∧((β' d).inner ids.length j).nil=(β c).nil
 base:∀ c∈ids,(β c).nil=true∨(β c).base=0
 obj:∀ (k c:Nat),ids[k]? = some c→u6 l k=false→(β c).base=0
theorem Fv (H:Packs β β' ids l d p) {s:SV} (hs:s.ok p=true) {v:Value} (h:s.rel β v):(vC ids l d s).rel β' v:=by
 cases s with
 | slc c sz lo len =>
  simp only [vC]
  cases hl:lidx c ids with
  | none=>exact SV.aW H.old hs h
  | some j =>
   have hj:=fM hl
   obtain ⟨g1,g2,g3⟩:=H.inn j c hj
   cases hb:Nat.beq lo 0 with
   | false=>exact SV.aW H.old hs h
   | true =>
    obtain rfl:lo=0:=by simpa using hb
    simp only [cond_true,SV.rel] at h ⊢
    rw [g2,g3]
    by_cases hn:(β c).nil=true
    ·rw [if_pos hn] at h ⊢
     exact ⟨h.1,h.2.2⟩
    ·rw [if_neg hn] at h ⊢
     obtain ⟨a,h1,h2,h3⟩:=h
     refine ⟨a,by simpa using h1,by omega,fun h0 => ?_⟩
     rw [h3 h0]
     have hb:=(H.base c (List.mem_of_getElem? hj)).resolve_left hn
     simp only [Loc.addr,g1,hb,Nat.zero_mul]
     rfl
 | ptr c i sz j =>
  simp only [vC]
  cases hl:lidx c ids with
  | none=>exact SV.aW H.old hs h
  | some k =>
   have hj:=fM hl
   obtain ⟨g1,g2,g3⟩:=H.inn k c hj
   dsimp only
   cases hb:Nat.beq (i * sz + j) 0 && !u6 l k with
   | false=>exact SV.aW H.old hs h
   | true =>
    simp only [Bool.and_eq_true,Bool.not_eq_true'] at hb
    have e0:i * sz + j=0:=by simpa using hb.1
    simp only [cond_true,SV.rel] at h ⊢
    have hb:=H.obj k c hj hb.2
    rw [h,e0]
    simp only [Loc.addr,hb]
    rw [← g1]
    rfl
 | _=>exact SV.aW H.old hs h
theorem wH (H:Packs β β' ids l d p):∀ {cs:List SV},cs.all (SV.ok p)=true→∀ {vs:List Value},bg β cs vs→bg β' (cs.map (vC ids l d)) vs
 | [],_,vs,h=>h
 | s::r,hs,vs,h=>by
  obtain ⟨v,t,rfl,h1,h2⟩:=h
  simp only [List.all_cons,Bool.and_eq_true] at hs
  exact ⟨v,t,rfl,Fv H hs.1 h1,wH H hs.2 h2⟩
theorem Fu (H:Packs β β' ids l d p) {c:CV} (hs:c.ok p=true) {v:Value} (h:c.rel β v):(Fq ids l d c).rel β' v:=by
 cases c with
 | one s=>exact Fv H hs h
 | agg cs=>obtain ⟨arr,rfl,h⟩:=h;exact ⟨arr,rfl,wH H hs h⟩
theorem CX (H:Packs β β' ids l d p):∀ {cs:List CV},cs.all (CV.ok p)=true→∀ {vs:List Value},iB β cs vs→iB β' (cs.map (Fq ids l d)) vs
 | [],_,vs,h=>h
 | s::r,hs,vs,h=>by
  obtain ⟨v,t,rfl,h1,h2⟩:=h
  simp only [List.all_cons,Bool.and_eq_true] at hs
  exact ⟨v,t,rfl,Fu H hs.1 h1,CX H hs.2 h2⟩
theorem Fw (H:Packs β β' ids l d p) {X:XV} (hs:X.ok p=true) {v:Value} (h:X.rel β v):(JH ids l d X).rel β' v:=by
 cases X with
 | cv c=>exact Fu H hs h
 | tup l=>obtain ⟨arr,rfl,h⟩:=h;exact ⟨arr,rfl,CX H hs h⟩
theorem CY {q:Nat→Bool} (hq:∀ c,p c=true→q c=true) (hd:q d=true) {s:SV} (hs:s.ok p=true):(vC ids l d s).ok q=true:=by
 cases s with
 | slc c sz lo len =>
  simp only [vC]
  cases lidx c ids with
  | none=>exact hq _ hs
  | some j=>cases Nat.beq lo 0 with
   | false=>exact hq _ hs
   | true=>exact hd
 | ptr c i sz j =>
  simp only [vC]
  cases lidx c ids with
  | none=>exact hq _ hs
  | some k =>
   dsimp only
   cases Nat.beq (i * sz + j) 0 && !u6 l k with
   | false=>exact hq _ hs
   | true=>exact hd
 | _=>exact SV.aG hq hs
theorem JG {q:Nat→Bool} (hq:∀ c,p c=true→q c=true) (hd:q d=true) {s:CV} (hs:s.ok p=true):(Fq ids l d s).ok q=true:=by
 cases s with
 | one s=>exact CY hq hd hs
 | agg cs =>
  simp only [CV.ok,Fq,List.all_eq_true,List.mem_map] at hs ⊢
  rintro _ ⟨s,hm,rfl⟩
  exact CY hq hd (hs s hm)
theorem JI {q:Nat→Bool} (hq:∀ c,p c=true→q c=true) (hd:q d=true) {s:XV} (hs:s.ok p=true):(JH ids l d s).ok q=true:=by
 cases s with
 | cv s=>exact JG hq hd hs
 | tup cs =>
  simp only [XV.ok,JH,List.all_eq_true,List.mem_map] at hs ⊢
  rintro _ ⟨s,hm,rfl⟩
  exact JG hq hd (hs s hm)
end
def Ba (g:XV→XV):List (Option XV)→List (Option XV)
 | []=>[]
 | none::r=>none::Ba g r
 | some X::r=>some (g X)::Ba g r
theorem mg (g:XV→XV):∀ l,(Ba g l).length=l.length
 | []=>rfl
 | none::r=>by simp [Ba,mg g r]
 | some _::r=>by simp [Ba,mg g r]
theorem l9 (g:XV→XV):∀ (l:List (Option XV)) (t:Nat),dD (Ba g l) t=(dD l t).map g
 | [],t=>by simp [Ba,dD]
 | none::r,0=>rfl
 | some _::r,0=>rfl
 | none::r,t + 1=>by simp only [Ba,dD];exact l9 g r t
 | some _::r,t + 1=>by simp only [Ba,dD];exact l9 g r t
def St.packed (S:St) (ids:List Nat) (l:List Chunk):St:=⟨Ba (JH ids l S.nx) S.slots,(S.nx,.abs (mK l))::S.mem.mD ids,S.nx + 1⟩
def lN (m:Nat) (L:Nat→Loc) (x:Nat):Nat :=
 match x / m with
 | 0=>(L (x % m)).blk
 | 1=>(L (x % m)).cap
 | 2=>if (L (x % m)).nil=true then 1 else 0
 | t + 3=>(L (x % m)).sub t
theorem zh (m:Nat) (L:Nat→Loc) {j:Nat} (hj:j<m):(Loc.mk 0 0 0 false (lN m L)).inner m j=⟨(L j).blk,0,(L j).cap,(L j).nil,(L j).sub⟩:=by
 have hm:0<m:=by omega
 have h0:j / m=0:=Nat.div_eq_of_lt hj
 have hmod:∀ t,(j + t * m) % m=j:=fun t=>by rw [Nat.add_mul_mod_self_right,Nat.mod_eq_of_lt hj]
 have hdiv:∀ t,(j + t * m) / m=t:=fun t=>by rw [Nat.add_mul_div_right _ _ hm,h0,Nat.zero_add]
 have e1:lN m L j=(L j).blk:=by
  have:=hmod 0;have h2:=hdiv 0
  simp only [Nat.zero_mul,Nat.add_zero] at this h2
  simp only [lN,this,h2]
 have e2:lN m L (j + m)=(L j).cap:=by
  have:=hmod 1;have h2:=hdiv 1
  rw [Nat.one_mul] at this h2
  simp only [lN,this,h2]
 have e3:lN m L (j + 2 * m)=if (L j).nil=true then 1 else 0:=by simp only [lN,hmod 2,hdiv 2]
 have e4:(fun i=>lN m L (j + (3 + i) * m))=(L j).sub:=by
  funext i
  have h2:=hdiv (3 + i)
  rw [show 3 + i=i + 3 by omega] at h2 ⊢
  simp only [lN,hmod,h2]
 simp only [Loc.inner,e1,e2,e3,e4]
 congr 1
 cases (L j).nil<;>rfl
theorem aN.pack {C:Ctx} {S:St} (ids:List Nat) (l:List Chunk) (hnd:ids.Nodup) (hlen:ids.length=l.length) (hl:(l.all fun ch=>ch.closed && !ch.fD)=true) (hm:∀ (j i:Nat) (ch:Chunk),ids[j]? = some i→l[j]? = some ch→∃ ch0,S.mem.get i=some ch0∧kZ ch0 ch):aN C S (S.packed ids l):=by
 rintro a w ⟨β,ow,g1,g2,g3,g4,g5⟩
 have hon:∀ k c,ow k=some c→c<S.nx:=fun k c h=>by simpa using g5 k c h
 have hl':∀ (j:Nat) (ch:Chunk),l[j]? = some ch→ch.fD=false∧ch.closed=true:=fun j ch hj=>by
  have:=List.all_eq_true.1 hl ch (List.mem_of_getElem? hj)
  simp only [Bool.and_eq_true,Bool.not_eq_true'] at this
  exact ⟨this.2,this.1⟩
 have hH:∀ (j i:Nat) (ch:Chunk),ids[j]? = some i→l[j]? = some ch→i<S.nx∧Holds β ow w i ch:=fun j i ch hi hj=>by
  obtain ⟨ch0,h1,h2⟩:=hm j i ch hi hj
  exact ⟨by simpa using (g2.mem i _ h1).1,h2.holds (g1.mem i _ h1)⟩
 have hids:∀ i∈ids,∃ j ch,ids[j]? = some i∧l[j]? = some ch:=fun i hi=>by
  obtain ⟨j,hj⟩:=List.getElem?_of_mem hi
  have:=(List.getElem?_eq_some_iff.1 hj).1
  exact ⟨j,l[j]'(by omega),hj,List.getElem?_eq_getElem (by omega)⟩
 have hbase:∀ i∈ids,(β i).nil=true∨(β i).base=0:=fun i hi=>by
  obtain ⟨j,ch,h1,h2⟩:=hids i hi
  have h3:=(hH j i ch h1 h2).2
  obtain ⟨k1,k2⟩:=hl' j ch h2
  cases ch with
  | cells e cs=>exact .inr h3.2.1
  | vec e sz n f =>
   simp only [Holds] at h3
   by_cases hn:(β i).nil=true
   ·exact .inl hn
   ·rw [if_neg hn] at h3;exact .inr h3.1
  | abs A=>exact .inr h3.2.1
  | ro _ _ _=>cases k1
  | ext _=>cases k1
 have hinx:∀ i∈ids,i<S.nx:=fun i hi=>by
  obtain ⟨j,ch,h1,h2⟩:=hids i hi
  exact (hH j i ch h1 h2).1
 let L:Nat→Loc:=fun j=>β (ids.getD j 0)
 have hL:∀ (j i:Nat),ids[j]? = some i→L j=β i:=fun j i h=>by simp [L,List.getD_eq_getElem?_getD,h]
 let β':=aX β S.nx (Loc.mk 0 0 0 false (lN ids.length L))
 let ow':Nat→Option Nat:=fun k=>match ow k with |some c=>if c∈ids then some S.nx else some c |none=>none
 have hold:∀ c,Nat.blt c S.nx=true→β' c=β c:=fun c hc=>by
  have:c≠S.nx:=by
    have:c<S.nx:=by simpa using hc
    omega
  simp [β',aX,this]
 have hnew:β' S.nx=Loc.mk 0 0 0 false (lN ids.length L):=by simp [β',aX]
 have hup:∀ c,Nat.blt c S.nx=true→Nat.blt c (S.nx + 1)=true:=fun c hc=>by simp only [Nat.blt_eq] at hc ⊢;omega
 have hother:∀ c k,c ∉ ids→c<S.nx→(ow' k=some c↔ow k=some c):=by
  intro c k e1 e2
  simp only [ow']
  cases hk:ow k with
  | none=>simp
  | some c0 =>
   simp only
   by_cases h:c0∈ids
   ·rw [if_pos h]
    simp only [Option.some.injEq]
    exact ⟨fun e=>by omega,fun e=>absurd (e▸h) e1⟩
   ·rw [if_neg h]
 have hmine:∀ k,ow' k=some S.nx↔∃ i∈ids,ow k=some i:=by
  intro k
  simp only [ow']
  cases hk:ow k with
  | none=>simp
  | some c0 =>
   simp only
   by_cases h:c0∈ids
   ·rw [if_pos h];simp [h]
   ·rw [if_neg h]
    simp only [Option.some.injEq]
    constructor
    ·intro e;have:=hon k _ hk;omega
    ·rintro ⟨i,h1,h2⟩;exact absurd (h2▸h1) h
 have hinner:∀ (j i:Nat),ids[j]? = some i→(β' S.nx).inner ids.length j=⟨(β i).blk,0,(β i).cap,(β i).nil,(β i).sub⟩:=fun j i h=>by
  rw [hnew,zh _ _ (List.getElem?_eq_some_iff.1 h).1,hL j i h]
 have hP:Packs β β' ids l S.nx (fun c=>Nat.blt c S.nx):=⟨hold,fun j c h=>by rw [hinner j c h];exact ⟨rfl,rfl,rfl⟩,hbase,fun k c h hv=>by
  obtain ⟨j,ch,h1,h2⟩:=hids c (List.mem_of_getElem? h)
  obtain rfl:j=k:=by
   have:=cB hnd h
   rw [cB hnd h1] at this;cases this;rfl
  have h3:=(hH j c ch h1 h2).2
  obtain ⟨k1,_⟩:=hl' j ch h2
  cases ch with
  | cells e cs=>exact h3.2.1
  | vec e sz n f=>simp [u6,iT,h2] at hv
  | abs A=>exact h3.2.1
  | ro _ _ _=>cases k1
  | ext _=>cases k1⟩
 refine ⟨β',ow',⟨g1.defers,?_,fun t X hX => ?_,fun c ch hc => ?_,fun k hk => ?_⟩,⟨fun t X hX => ?_,fun c ch hc => ?_⟩,⟨g3.os,g3.tape,g3.output,g3.size,fun k e1 e2 => ?_,fun c hc=>by rw [hold c (by simp only [Nat.blt_eq];omega)];exact g3.beta c hc⟩,by simp only [St.packed];omega,fun k c hc => ?_⟩
 ·rw [g1.size];simp [St.packed,mg]
 ·simp only [St.packed,l9,Option.map_eq_some_iff] at hX
  obtain ⟨X0,h1,rfl⟩:=hX
  exact Fw hP (g2.slots t X0 h1) (g1.slots t X0 h1)
 ·simp only [St.packed,Mem.get,aL,Mem.eU] at hc
  by_cases hcc:S.nx=c
  ·subst hcc
   simp only [decide_true,cond_true,Option.some.injEq] at hc
   subst hc
   refine ⟨by rw [hnew],by rw [hnew],?_⟩
   refine ⟨fun j=>(β' S.nx).inner ids.length j,fun k=>(ow k).bind fun c=>lidx c ids,fun k hk => ?_,fun k => ?_,fun j hj => ?_,fun k c hk => ?_,hl',fun j ch hj => ?_⟩
   ·cases h0:ow k with
    | none=>exact absurd (show ((ow k).bind fun c=>lidx c ids)=none by rw [h0];rfl) hk
    | some c=>exact g1.wf k (by simp [h0])
   ·simp only [hmine]
    constructor
    ·rintro ⟨i,h1,h2⟩
     obtain ⟨j,hj⟩:=List.getElem?_of_mem h1
     rw [h2];simp [cB hnd hj]
    ·intro h
     cases h0:ow k with
     | none=>rw [h0] at h;exact absurd rfl h
     | some c =>
      rw [h0] at h
      cases h1:lidx c ids with
      | none=>simp [h1] at h
      | some j=>exact ⟨c,List.mem_of_getElem? (fM h1),rfl⟩
   ·rw [hlen,hnew];rfl
   ·obtain ⟨c0,h1,h2⟩:=Option.bind_eq_some_iff.1 hk
    rw [← hlen];exact (List.getElem?_eq_some_iff.1 (fM h2)).1
   ·have hjl:j<ids.length:=by rw [hlen];exact (List.getElem?_eq_some_iff.1 hj).1
    obtain ⟨i,hi⟩:∃ i,ids[j]? = some i:=⟨_,List.getElem?_eq_getElem hjl⟩
    obtain ⟨k1,k2⟩:=hl' j ch hj
    have hh:=(hH j i ch hi hj).2
    have ho:∀ k,((ow k).bind fun c=>lidx c ids)=some j↔ow k=some i:=fun k=>by
     rw [Option.bind_eq_some_iff]
     constructor
     ·rintro ⟨c,h1,h2⟩
      have:=fM h2
      rw [hi] at this;cases this;exact h1
     ·intro h;exact ⟨i,h,cB hnd hi⟩
    have hin:=hinner j i hi
    by_cases hz:(β i).nil=true∧u6 l j=true
    ·cases ch with
     | vec e sz n f =>
      simp only [Holds] at hh ⊢
      rw [if_pos hz.1] at hh
      rw [if_pos (by rw [hin];exact hz.1)]
      exact hh
     | _=>simp [u6,iT,hj] at hz
    ·have hbb:(β i).base=0:=by
      rcases hbase i (List.mem_of_getElem? hi) with h |h
      ·exact hP.obj j i hi (by simpa using fun e=>hz ⟨h,e⟩)
      ·exact h
     have:=Holds.trans (β:=β) (β':=fun j=>(β' S.nx).inner ids.length j) (ow:=ow) (ow':=fun k=>(ow k).bind fun c=>lidx c ids) (w:=w) (w':=w) (c:=i) (c':=j) (ρ:=id) (ch:=ch) (p:=fun _=>false) (Chunk.um k2) (fun _ h=>by cases h) (by simp only [hin]) (by simp only [hin,hbb]) (by simp only [hin]) (.inl ⟨by simp only [hin],by simp only [hin]⟩) k1 ho (fun k hk=>rfl) hh
     rwa [Chunk.aM k2] at this
  ·simp only [hcc,decide_false,cond_false] at hc
   split at hc
   ·cases hc
   ·rename_i hni
    obtain ⟨k1,k2⟩:=g2.mem c ch hc
    have hlt:c<S.nx:=by simpa using k1
    exact Holds.keep k2 hold (hold c k1) (fun _ k=>hother c k hni hlt) (fun _ k hn=>by simp [ow',hn]) (g1.mem c ch hc)
 ·simp only [ow'] at hk
  cases h0:ow k with
  | none=>rw [h0] at hk;exact absurd rfl hk
  | some c=>exact g1.wf k (by simp [h0])
 ·simp only [St.packed,l9,Option.map_eq_some_iff] at hX ⊢
  obtain ⟨X0,h1,rfl⟩:=hX
  exact JI hup (by simp) (g2.slots t X0 h1)
 ·simp only [St.packed,Mem.get,aL,Mem.eU] at hc ⊢
  by_cases hcc:S.nx=c
  ·subst hcc
   simp only [decide_true,cond_true,Option.some.injEq] at hc
   subst hc
   exact ⟨by simp,rfl⟩
  ·simp only [hcc,decide_false,cond_false] at hc
   split at hc
   ·cases hc
   ·obtain ⟨k1,k2⟩:=g2.mem c ch hc
    exact ⟨hup c k1,Chunk.aG hup k2⟩
 ·obtain ⟨e3,e4⟩:=g3.keep k e1 e2
  exact ⟨e3,by simp [ow',e4]⟩
 ·simp only [ow'] at hc
  cases h0:ow k with
  | none=>rw [h0] at hc;cases hc
  | some c1 =>
   rw [h0] at hc
   simp only at hc
   by_cases h:c1∈ids
   ·rw [if_pos h] at hc
    simp only [Option.some.injEq] at hc
    subst hc;simp [St.packed]
   ·rw [if_neg h] at hc
    simp only [Option.some.injEq] at hc
    subst hc;exact hup c1 (g5 k c1 h0)
open Go.RowKit
def RS (g:SV→SV):CV→CV
 | .one s => .one (g s)
 | .agg cs => .agg (cs.map g)
def U4 (g:SV→SV):XV→XV
 | .cv c => .cv (RS g c)
 | .tup l => .tup (l.map (RS g))
def mapM (g:SV→SV):Mem→Mem
 | []=>[]
 | (c,ch)::r=>(c,match ch with |.cells e cs => .cells e (cs.map g) |.vec e sz n f => .vec e sz n f |.ro sz n f => .ro sz n f |.abs A => .abs A |.ext A => .ext A)::mapM g r
def VL (g:SV→SV):Chunk→Chunk
 | .cells e cs => .cells e (cs.map g)
 | ch=>ch
theorem yw (g:SV→SV) (d:Nat):∀ M:Mem,(mapM g M).get d=(M.get d).map (VL g)
 | []=>rfl
 | (c,ch)::r=>by
  simp only [mapM,Mem.get,aL]
  by_cases h:c=d
  ·subst h
   simp only [decide_true,cond_true,Option.map_some]
   cases ch<;>rfl
  ·simp only [h,decide_false,cond_false]
   exact yw g d r
section
variable {β β':Nat→Loc} {p q:Nat→Bool} {g:SV→SV}
theorem zJ (H:∀ s:SV,s.ok p=true→∀ v,s.rel β v→(g s).rel β' v):∀ {cs:List SV},cs.all (SV.ok p)=true→∀ {vs:List Value},bg β cs vs→bg β' (cs.map g) vs
 | [],_,vs,h=>h
 | s::r,hs,vs,h=>by
  obtain ⟨v,t,rfl,h1,h2⟩:=h
  simp only [List.all_cons,Bool.and_eq_true] at hs
  exact ⟨v,t,rfl,H s hs.1 v h1,zJ H hs.2 h2⟩
theorem Jp (H:∀ s:SV,s.ok p=true→∀ v,s.rel β v→(g s).rel β' v) {c:CV} (hs:c.ok p=true) {v:Value} (h:c.rel β v):(RS g c).rel β' v:=by
 cases c with
 | one s=>exact H s hs v h
 | agg cs=>obtain ⟨arr,rfl,h⟩:=h;exact ⟨arr,rfl,zJ H hs h⟩
theorem E5 (H:∀ s:SV,s.ok p=true→∀ v,s.rel β v→(g s).rel β' v):∀ {cs:List CV},cs.all (CV.ok p)=true→∀ {vs:List Value},iB β cs vs→iB β' (cs.map (RS g)) vs
 | [],_,vs,h=>h
 | s::r,hs,vs,h=>by
  obtain ⟨v,t,rfl,h1,h2⟩:=h
  simp only [List.all_cons,Bool.and_eq_true] at hs
  exact ⟨v,t,rfl,Jp H hs.1 h1,E5 H hs.2 h2⟩
theorem RU (H:∀ s:SV,s.ok p=true→∀ v,s.rel β v→(g s).rel β' v) {X:XV} (hs:X.ok p=true) {v:Value} (h:X.rel β v):(U4 g X).rel β' v:=by
 cases X with
 | cv c=>exact Jp H hs h
 | tup l=>obtain ⟨arr,rfl,h⟩:=h;exact ⟨arr,rfl,E5 H hs h⟩
theorem Cx (H:∀ s:SV,s.ok p=true→(g s).ok q=true) {cs:List SV} (hs:cs.all (SV.ok p)=true):(cs.map g).all (SV.ok q)=true:=by
 simp only [List.all_eq_true,List.mem_map] at hs ⊢
 rintro _ ⟨s,hm,rfl⟩
 exact H s (hs s hm)
theorem U5 (H:∀ s:SV,s.ok p=true→(g s).ok q=true) {X:XV} (hs:X.ok p=true):(U4 g X).ok q=true:=by
 have hc:∀ c:CV,c.ok p=true→(RS g c).ok q=true:=by
  intro c hs
  cases c with
  | one s=>exact H s hs
  | agg cs=>exact Cx H hs
 cases X with
 | cv c=>exact hc c hs
 | tup l =>
  simp only [XV.ok,U4,List.all_eq_true,List.mem_map] at hs ⊢
  rintro _ ⟨s,hm,rfl⟩
  exact hc s (hs s hm)
end
def Ia (c:Nat) (l:List Chunk) (nx:Nat):SV→SV
 | .ins c' m j len=>bif Nat.beq c' c && Nat.beq m l.length then (match vZ l j with |some (.vec _ sz _ _) => .slc (nx + j) sz 0 len |_ => .ins c' m j len) else .ins c' m j len
 | .inn c' j=>bif Nat.beq c' c then (match vZ l j with |some (.abs _) => .ptr (nx + j) 0 0 0 |some (.cells _ _) => .ptr (nx + j) 0 0 0 |_ => .inn c' j) else .inn c' j
 | s=>s
def Ug:Nat→List Chunk→Mem
 | _,[]=>[]
 | i,ch::r=>(i,ch)::Ug (i + 1) r
theorem Kz:∀ {l:List Chunk} {i c:Nat},(Ug i l).get c=if i≤c then l[c - i]? else none
 | [],i,c=>by simp [Ug,Mem.get]
 | x::r,i,c=>by
  simp only [Ug,Mem.get,aL]
  by_cases hi:i=c
  ·subst hi;simp
  ·simp only [hi,decide_false,cond_false]
   rw [Kz]
   by_cases h:i + 1≤c
   ·rw [if_pos h,if_pos (by omega),show c - i=(c - (i + 1)) + 1 by omega,List.getElem?_cons_succ]
   ·rw [if_neg h,if_neg (by omega)]
def St.unpacked (S:St) (c:Nat) (l:List Chunk):St:=⟨Ba (U4 (Ia c l S.nx)) S.slots,Ug S.nx l++mapM (Ia c l S.nx) (S.mem.del c),S.nx + l.length⟩
theorem aN.unpack {C:Ctx} {S:St} {c:Nat} {l:List Chunk} (hc:S.mem.get c=some (.abs (mK l))):aN C S (S.unpacked c l):=by
 rintro a w ⟨β,ow,g1,g2,g3,g4,g5⟩
 have hcn:c<S.nx:=by simpa using (g2.mem c _ hc).1
 have hon:∀ k c,ow k=some c→c<S.nx:=fun k c h=>by simpa using g5 k c h
 obtain ⟨p1,p2,βP,owP,q1,q2,q3,q4,q5,q6⟩:=g1.mem c _ hc
 replace q2:∀ k,ow k=some c↔owP k≠none:=q2
 have hsub:(⟨(β c).blk,0,subs (β c) 0,false,fun j=>subs (β c) (j + 1)⟩:Loc)=β c:=by
  cases hb:β c with
  | mk blk base cap nil sub =>
   rw [hb] at p1 p2
   simp only at p1 p2
   subst p1 p2
   rfl
 rw [hsub] at q3
 let m:=l.length
 let β':Nat→Loc:=fun x=>if S.nx≤x∧x<S.nx + m then (β c).inner m (x - S.nx) else β x
 let ow':Nat→Option Nat:=fun k=>match ow k with |some c0=>if c0=c then (owP k).map (S.nx + ·) else some c0 |none=>none
 have hold:∀ c,Nat.blt c S.nx=true→β' c=β c:=fun c hc=>by
  have:c<S.nx:=by simpa using hc
  simp only [β'];rw [if_neg (by omega)]
 have hnew:∀ j,j<m→β' (S.nx + j)=(β c).inner m j:=fun j hj=>by
  simp only [β'];rw [if_pos (by omega),Nat.add_sub_cancel_left]
 have hup:∀ c,Nat.blt c S.nx=true→Nat.blt c (S.nx + m)=true:=fun c hc=>by simp only [Nat.blt_eq] at hc ⊢;omega
 have hmine:∀ k,ow k=some c→∃ j,owP k=some j∧j<m:=fun k hk=>by
  cases h:owP k with
  | none=>exact absurd h ((q2 k).1 hk)
  | some j=>exact ⟨j,rfl,q4 k j h⟩
 have hother:∀ c' k,c'≠c→c'<S.nx→(ow' k=some c'↔ow k=some c'):=by
  intro c' k e1 e2
  simp only [ow']
  cases hk:ow k with
  | none=>simp
  | some c0 =>
   simp only
   by_cases h:c0=c
   ·rw [if_pos h]
    obtain ⟨j,hj,_⟩:=hmine k (h▸hk)
    rw [hj]
    simp only [Option.map_some,Option.some.injEq]
    exact ⟨fun e=>by omega,fun e=>absurd (e▸h) e1⟩
   ·rw [if_neg h]
 have hnewo:∀ j k,j<m→(ow' k=some (S.nx + j)↔owP k=some j):=by
  intro j k hj
  simp only [ow']
  cases hk:ow k with
  | none =>
   have:owP k=none:=by
    cases h:owP k with
    | none=>rfl
    | some i=>have:=(q2 k).2 (by simp [h]);rw [hk] at this;cases this
   simp [this]
  | some c0 =>
   simp only
   by_cases h:c0=c
   ·rw [if_pos h]
    cases h2:owP k with
    | none=>simp
    | some i=>simp
   ·rw [if_neg h]
    have:owP k=none:=by
     cases h2:owP k with
     | none=>rfl
     | some i=>have:=(q2 k).2 (by simp [h2]);rw [hk] at this;cases this;exact absurd rfl h
    rw [this]
    simp only [Option.some.injEq]
    exact ⟨fun e=>by have:=hon k c0 hk;omega,fun e=>by cases e⟩
 have hvec:∀ (j:Nat) (e sz n:Nat) (f:Nat→List Value),vZ l j=some (.vec e sz n f)→j<m:=fun j e sz n f h=>by
  rw [iT] at h;exact (List.getElem?_eq_some_iff.1 h).1
 have hS:∀ s:SV,s.ok (fun c=>Nat.blt c S.nx)=true→∀ v,s.rel β v→(Ia c l S.nx s).rel β' v:=by
  intro s hs v h
  cases s with
  | ins c' m' j len =>
   simp only [Ia]
   cases hb:Nat.beq c' c && Nat.beq m' l.length with
   | false=>exact SV.aW hold hs h
   | true =>
    simp only [Bool.and_eq_true,Nat.beq_eq] at hb
    obtain ⟨rfl,rfl⟩:=hb
    simp only [cond_true]
    split
    ·rename_i e sz n f hl
     have hj:=hvec j e sz n f hl
     simp only [SV.rel] at h ⊢
     rw [hnew j hj]
     by_cases hn:((β c').inner l.length j).nil=true
     ·rw [if_pos hn] at h
      rw [if_pos hn]
      exact ⟨h.1,trivial,h.2⟩
     ·rw [if_neg hn] at h
      rw [if_neg hn]
      obtain ⟨a,h1,h2,h3⟩:=h
      refine ⟨a,h1,by rw [Nat.zero_add];exact h2,fun h0 => ?_⟩
      rw [h3 h0,Nat.zero_mul]
    ·exact SV.aW hold hs h
  | inn c' j =>
   simp only [Ia]
   cases hb:Nat.beq c' c with
   | false=>exact SV.aW hold hs h
   | true =>
    simp only [Nat.beq_eq] at hb
    subst hb
    have go:j<m→(SV.ptr (S.nx + j) 0 0 0).rel β' v:=by
     intro hj
     simp only [SV.rel] at h ⊢
     rw [hnew j hj,h]
     rfl
    simp only [cond_true]
    split
    ·rename_i A hl
     rw [iT] at hl
     exact go (List.getElem?_eq_some_iff.1 hl).1
    ·rename_i A B hl
     rw [iT] at hl
     exact go (List.getElem?_eq_some_iff.1 hl).1
    ·exact SV.aW hold hs h
  | _=>exact SV.aW hold hs h
 have hSok:∀ s:SV,s.ok (fun c=>Nat.blt c S.nx)=true→(Ia c l S.nx s).ok (fun c=>Nat.blt c (S.nx + m))=true:=by
  intro s hs
  cases s with
  | ins c' m' j len =>
   simp only [Ia]
   cases Nat.beq c' c && Nat.beq m' l.length with
   | false=>exact SV.aG hup hs
   | true =>
    simp only [cond_true]
    split
    ·rename_i e sz n f hl
     have:=hvec j e sz n f hl
     simp only [SV.ok,Nat.blt_eq];omega
    ·exact SV.aG hup hs
  | inn c' j =>
   simp only [Ia]
   cases Nat.beq c' c with
   | false=>exact SV.aG hup hs
   | true =>
    simp only [cond_true]
    split
    ·rename_i A hl
     rw [iT] at hl
     have:=(List.getElem?_eq_some_iff.1 hl).1
     simp only [SV.ok,Nat.blt_eq];omega
    ·rename_i A B hl
     rw [iT] at hl
     have:=(List.getElem?_eq_some_iff.1 hl).1
     simp only [SV.ok,Nat.blt_eq];omega
    ·exact SV.aG hup hs
  | _=>exact SV.aG hup hs
 have hmem:∀ c' ch,(S.unpacked c l).mem.get c'=some ch→(∃ j,j<m∧c'=S.nx + j∧l[j]? = some ch)∨(c'<S.nx∧c'≠c∧∃ ch0,S.mem.get c'=some ch0∧ch=VL (Ia c l S.nx) ch0):=by
  intro c' ch h
  simp only [St.unpacked,Mem.get_append,Kz,yw,Mem.eP] at h
  by_cases hle:S.nx≤c'
  ·rw [if_pos hle] at h
   cases hl:l[c' - S.nx]? with
   | some ch0 =>
    rw [hl] at h
    simp only [Option.some_or,Option.some.injEq] at h
    subst h
    exact .inl ⟨c' - S.nx,(List.getElem?_eq_some_iff.1 hl).1,by omega,hl⟩
   | none =>
    rw [hl] at h
    simp only [Option.none_or,Option.map_eq_some_iff] at h
    obtain ⟨ch0,h1,_⟩:=h
    split at h1
    ·cases h1
    ·have:c'<S.nx:=by simpa using (g2.mem c' _ h1).1
     omega
  ·rw [if_neg hle] at h
   simp only [Option.none_or,Option.map_eq_some_iff] at h
   obtain ⟨ch0,h1,h2⟩:=h
   split at h1
   ·cases h1
   ·rename_i hne
    exact .inr ⟨by omega,hne,ch0,h1,h2.symm⟩
 refine ⟨β',ow',⟨g1.defers,?_,fun t X hX => ?_,fun c' ch hc' => ?_,fun k hk => ?_⟩,⟨fun t X hX => ?_,fun c' ch hc' => ?_⟩,⟨g3.os,g3.tape,g3.output,g3.size,fun k e1 e2 => ?_,fun c hc=>by rw [hold c (by simp only [Nat.blt_eq];omega)];exact g3.beta c hc⟩,by simp only [St.unpacked];omega,fun k c' hc' => ?_⟩
 ·rw [g1.size];simp [St.unpacked,mg]
 ·simp only [St.unpacked,l9,Option.map_eq_some_iff] at hX
  obtain ⟨X0,h1,rfl⟩:=hX
  exact RU hS (g2.slots t X0 h1) (g1.slots t X0 h1)
 ·rcases hmem c' ch hc' with ⟨j,hj,rfl,hl⟩ |⟨hlt,hne,ch0,h1,rfl⟩
  ·obtain ⟨k1,k2⟩:=q5 j ch hl
   have:=q6 j ch hl
   refine Holds.move (β:=βP) (ow:=owP) (c:=j) k2 ?_ (fun _ k=>hnewo j k hj) (fun e=>by rw [k1] at e;cases e) this
   rw [hnew j hj,q3 j hj]
  ·obtain ⟨k1,k2⟩:=g2.mem c' ch0 h1
   have hh:=g1.mem c' ch0 h1
   cases ch0 with
   | cells e cs =>
    obtain ⟨h3,h4,h5,arr,h6,h7⟩:=hh
    refine ⟨by rw [hold c' k1];exact h3,by rw [hold c' k1];exact h4,by rw [hold c' k1,hother c' _ hne hlt];exact h5,arr,by rw [hold c' k1];exact h6,zJ hS k2 h7⟩
   | _=>exact Holds.keep k2 hold (hold c' k1) (fun _ k=>hother c' k hne hlt) (fun _ k hn=>by simp [ow',hn]) hh
 ·simp only [ow'] at hk
  cases h0:ow k with
  | none=>rw [h0] at hk;exact absurd rfl hk
  | some c0=>exact g1.wf k (by simp [h0])
 ·simp only [St.unpacked,l9,Option.map_eq_some_iff] at hX ⊢
  obtain ⟨X0,h1,rfl⟩:=hX
  exact U5 hSok (g2.slots t X0 h1)
 ·rcases hmem c' ch hc' with ⟨j,hj,rfl,hl⟩ |⟨hlt,hne,ch0,h1,rfl⟩
  ·exact ⟨by simp only [St.unpacked,Nat.blt_eq];omega,Chunk.um (q5 j ch hl).2⟩
  ·obtain ⟨k1,k2⟩:=g2.mem c' ch0 h1
   refine ⟨hup c' k1,?_⟩
   cases ch0 with
   | cells e cs=>exact Cx hSok k2
   | _=>rfl
 ·obtain ⟨e3,e4⟩:=g3.keep k e1 e2
  exact ⟨e3,by simp [ow',e4]⟩
 ·simp only [ow'] at hc'
  cases h0:ow k with
  | none=>rw [h0] at hc';cases hc'
  | some c1 =>
   rw [h0] at hc'
   simp only at hc'
   by_cases h:c1=c
   ·rw [if_pos h] at hc'
    obtain ⟨j,hj,hjm⟩:=hmine k (h▸h0)
    rw [hj] at hc'
    simp only [Option.map_some,Option.some.injEq] at hc'
    subst hc'
    simp only [St.unpacked,Nat.blt_eq];omega
   ·rw [if_neg h] at hc'
    simp only [Option.some.injEq] at hc'
    subst hc';exact hup c1 (g5 k c1 h0)
end Go.Sx
