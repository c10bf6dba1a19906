/- Parts SxZf SxZg SxZi SxZj SxZq SxZr. -/
import Derived.Test.YtnpkdoggfnlapaaGreatDoorG10
import Derived.Test.YtnpkdoggfnlapaaGreatDoorG09
set_option linter.unusedSimpArgs false
set_option linter.unusedVariables false
namespace Go.Sx
open Go.RowKit
theorem av.mono {P:Program} {C:Ctx} {c:Code} {S:St} {Q Q':Exit→St→Prop} (h:av P C c S Q) (hq:∀ e S,Q e S→Q' e S):av P C c S Q':=by
 intro a w hs
 refine Code.wp_mono (fun e a' w' h => ?_) (h a w hs)
 obtain ⟨S',h1,h2⟩:=h
 exact ⟨S',h1,hq e S' h2⟩
theorem av.merge {P:Program} {C:Ctx} {x y:Code} {S:St} {Q:Exit→St→Prop} (S':St) (hx:av P C x S (fun e S1=>e = .normal∧aN C S1 S')) (hy:av P C y S' Q):av P C (.seq x y) S Q:=by
 refine av.seq (av.mono hx fun e S1 h => ?_)
 obtain ⟨rfl,h⟩:=h
 exact ak (av.ent h hy)
theorem aN.VT {C:Ctx} {S:St} {i0 i1:Nat} {M:Mem} {inv:Prop} {a0 a1 b0 b1:Chunk} (hids:Nat.beq i0 i1=false) (hinv:inv) (hM:LU 2 M=true) (g0:M.get 0=some a0) (g1:M.get 1=some a1)
  (k0:S.mem.get i0=some b0) (k1:S.mem.get i1=some b1) (hc:b0.isCells=true) (l0:kZ b0 (a0.ren fun j=>(([i0,i1]:List Nat)[j]?).getD 0)) (l1:kZ b1 (a1.ren fun j=>(([i0,i1]:List Nat)[j]?).getD 0)):aN C S (S.shut i0 [i0,i1] M inv):=by
 refine aN.shut ?_ rfl hinv ⟨b0,k0,hc⟩ hM (fun j i hj => ?_)
 ·rw [aL,decide_eq_false_iff_not] at hids
  simp [hids]
 ·match j with
  | 0=>simp at hj;subst hj;exact ⟨a0,b0,g0,k0,l0⟩
  | 1=>simp at hj;subst hj;exact ⟨a1,b1,g1,k1,l1⟩
  | j + 2=>simp at hj
theorem Ends.bZ {C:Ctx} {T:aU} {rs:List ResultVar} {n0:Nat} {X v:XV} {S S':St} {e:Exit} {ch:Chunk} (he:e = .normal∨e = .ret) (hE:aN C S S') (hm:S'.mem.get 0=some ch) (hr:tK T S' rs=some v) (hv:v=X) :
  Ends C T rs 1 n0 ⟨X,[(0,ch)],none⟩ e S:=by
 refine ⟨he,_,hE,by rw [hr,hv],fun i ch' h => ?_,fun i ch h=>by cases h⟩
 simp only [Mem.get,aL] at h
 by_cases hk:0=i
 ·subst hk
  simp only [decide_true,cond_true,Option.some.injEq] at h
  exact ⟨by omega,by rw [← h];exact hm⟩
 ·simp [hk] at h
theorem Does.QK {P:Program} {f:FuncId} {a b:Chunk} {l:List AD} {es:List iX} {X:XV} {fr:Option Chunk} (h:Does P f [(a,b)] l es X fr) {Xs:List CV} {M:Mem} {c d:Nat} (rd:List Nat) (hc:M.get c=some a) (hcd:Nat.beq c d=false) (hrd:gI c rd=false) (ha:lg M rd Xs l) (he:lq M rd es) :
  aC P f (.one (.ptr c 0 0 0)::Xs) M d { v:=X.ren fun _=>d,upd:=(c,b)::UR d fr,wr:=[c] } (c::rd):=by
 rw [aL,decide_eq_false_iff_not] at hcd
 refine h.at [c] rd rfl (by simp [hcd]) (by simp [hrd]) (fun i c' x h1 h2 => ?_) ha he
 match i with
 | 0 =>
  simp only [List.getElem?_cons_zero,Option.some.injEq] at h1 h2
  subst h1 h2;exact hc
 | i + 1=>simp at h1
theorem Ends.does {C:Ctx} {T:aU} {rs:List ResultVar} {n0 i:Nat} {X:XV} {ch ch':Chunk} {S S':St} {e:Exit} (he:e = .normal∨e = .ret) (hE:aN C S S') (hr:tK T S' rs=some X) (hm:S'.mem.get 0=some ch) (hn:n0≤i) (hm':S'.mem.get i=some ch') :
  Ends C T rs 1 n0 ⟨X,[(0,ch)],some (i,ch')⟩ e S:=by
 refine ⟨he,_,hE,hr,fun j c h => ?_,fun j c h => ?_⟩
 ·simp only [Mem.get,aL] at h
  by_cases hk:0=j
  ·subst hk
   simp only [decide_true,cond_true,Option.some.injEq] at h
   exact ⟨by omega,by rw [← h];exact hm⟩
  ·simp [hk] at h
 ·simp only [Option.some.injEq,Prod.mk.injEq] at h
  obtain ⟨rfl,rfl⟩:=h
  exact ⟨hn,hm'⟩
theorem av.freeze {P:Program} {C:Ctx} {cd:Code} {S:St} {Q:Exit→St→Prop} (t:Nat) {c e sz n m:Nat} {f:Nat→List Value} (ht:dD S.slots t=some (XV.sv (.slc c sz 0 n))) (hm:S.mem.get c=some (.vec e sz m f)) (hnm:n≤m)
  (h:∀ (ad:Option Addr) (cp:Nat),av P C cd ⟨om S.slots t (some (XV.val (.slice ad n cp))),(S.nx,.ext (PartsAt sz 1 (fun _=>n) (fun _=>f) (fun _=>ad)))::S.mem.del c,S.nx + 1⟩ Q):av P C cd S Q:=by
 intro a w hs
 obtain ⟨β,ow,g1,g2,g3,g4,g5⟩:=hs
 have hv:=g1.slots t _ ht
 have hh:=g1.mem c _ hm
 simp only [XV.rel,CV.rel,SV.rel] at hv
 simp only [Holds] at hh
 let ow':Nat→Option Nat:=fun k=>if ow k=some c then none else ow k
 have hother:∀ c' k,c'≠c→(ow' k=some c'↔ow k=some c'):=by
  intro c' k e1
  simp only [ow']
  split
  ·rename_i h2
   rw [h2]
   simp only [Option.some.injEq]
   exact ⟨(fun e=>by cases e),(fun e=>absurd e.symm e1)⟩
  ·exact Iff.rfl
 have hex:∃ (ad:Option Addr) (cp:Nat),a.tmps.getD t undef = .slice ad n cp∧∃ O:Nat→Prop,(∀ k,O k→ow' k=none∧k<w.heap.size)∧(PartsAt sz 1 (fun _=>n) (fun _=>f) (fun _=>ad)).Ψ w (β S.nx) O:=by
  by_cases hn:(β c).nil=true
  ·rw [if_pos hn] at hv
   refine ⟨none,0,by rw [hv.1,hv.2.2],fun _=>False,fun _ h=>h.elim,fun i _ h0 => ?_⟩
   have h0:0<n:=h0
   omega
  ·rw [if_neg hn] at hv hh
   obtain ⟨ad,e1,e2,e3⟩:=hv
   obtain ⟨v1,v2,v3,v4,arr,v5,v6,v7⟩:=hh
   refine ⟨some ad,(β c).cap - 0,e1,fun k=>k=(β c).blk,fun k hk => ?_,fun i _ h0 => ?_⟩
   ·subst hk
    exact ⟨by simp [ow',v2],(Array.getElem?_eq_some_iff.1 v5).1⟩
   ·have h0:0<n:=h0
    have ha:=e3 (by omega)
    refine ⟨ad,rfl,by rw [ha];rfl,fun k hk => ?_⟩
    have hk:k<n:=hk
    obtain ⟨q1,q2⟩:=v7 k (by omega)
    refine ⟨q1,fun j v hj => ?_⟩
    rw [ha,gH]
    simp only [Loc.addr,v1,Nat.zero_add,Nat.zero_mul]
    rw [cell_of_row w _ _ arr e _ v5]
    exact q2 j v hj
 obtain ⟨ad,cp,m1,O,m2,m3⟩:=hex
 have hlt:=kK ht
 have up:∀ i,Nat.blt i S.nx=true→Nat.blt i (S.nx + 1)=true:=fun i hi=>by simp only [Nat.blt_eq] at hi ⊢;omega
 refine h ad cp a w ⟨β,ow',⟨g1.defers,by simp [eY,g1.size],fun t' X' h' => ?_,fun c' ch hc' => ?_,fun k hk => ?_⟩,⟨fun t' X' h' => ?_,fun c' ch hc' => ?_⟩,⟨g3.os,g3.tape,g3.output,g3.size,fun k e1 e2 => ?_,g3.beta⟩,Nat.le_succ_of_le g4,fun k c' hk => ?_⟩
 ·simp only [dZ] at h'
  by_cases htt:t'=t
  ·subst htt;simp only [if_true,hlt] at h';cases h';exact m1
  ·simp only [htt,if_false] at h';exact g1.slots t' X' h'
 ·simp only [Mem.get,aL] at hc'
  by_cases hcn':S.nx=c'
  ·simp only [hcn',decide_true,cond_true,Option.some.injEq] at hc'
   subst hc'
   exact ⟨O,m2,m3⟩
  ·simp only [hcn',decide_false,cond_false,Mem.eP] at hc'
   split at hc'
   ·cases hc'
   ·rename_i hne
    exact Holds.keep (g2.mem c' ch hc').2 (fun _ _=>rfl) rfl (fun _ k=>hother c' k hne) (fun _ k hn=>by simp [ow',hn]) (g1.mem c' ch hc')
 ·simp only [ow'] at hk
  split at hk
  ·exact absurd rfl hk
  ·exact g1.wf k hk
 ·simp only [dZ] at h'
  by_cases htt:t'=t
  ·subst htt;simp only [if_true,hlt] at h';cases h';rfl
  ·simp only [htt,if_false] at h';exact XV.aG up (g2.slots t' X' h')
 ·simp only [Mem.get,aL] at hc'
  by_cases hcn':S.nx=c'
  ·simp only [hcn',decide_true,cond_true,Option.some.injEq] at hc'
   subst hc'
   exact ⟨by simp only [Nat.blt_eq];omega,rfl⟩
  ·simp only [hcn',decide_false,cond_false,Mem.eP] at hc'
   split at hc'
   ·cases hc'
   ·obtain ⟨n1,n2⟩:=g2.mem c' ch hc'
    exact ⟨up _ n1,Chunk.aG up n2⟩
 ·obtain ⟨e3,e4⟩:=g3.keep k e1 e2
  exact ⟨e3,by simp [ow',e4]⟩
 ·simp only [ow'] at hk
  split at hk
  ·cases hk
  ·exact up _ (g5 k c' hk)
section
variable {M:Mem} {rd:List Nat}
def KF (M:Mem) (rd:List Nat) (sz:Nat) (cell:List Value) (k:Nat) (f:Nat→List Value):Prop :=
 ∃ q n ln g ad i cp,M.get q=some (.ext (PartsAt sz n ln g ad))∧gI q rd=true∧i<n∧cell=[.slice (ad i) (ln i) cp]∧ln i=k∧g i=f
theorem Ec {c e sz n:Nat} {F:Nat→List Value} {ln:Nat→Nat} {g:Nat→Nat→List Value} (hm:M.get c=some (.vec e 1 n F)) (hrd:gI c rd=true) (h:∀ i,i<n→KF M rd sz (F i) (ln i) (g i)):bC M rd (.one (.slc c 1 0 n)) (.rows sz n ln g):=by
 refine bC.rows ?_
 intro β ow w v hw hv hr
 have hh:=hr c ((bH c rd).1 hrd) _ hm
 refine ⟨β c,by simpa [CV.rel,SV.rel] using hv,fun k=>k<w.heap.size∧Free rd ow k,fun k hk=>hk,?_⟩
 simp only [Holds] at hh
 simp only [Bz]
 by_cases hn:(β c).nil=true
 ·rw [if_pos hn] at hh ⊢;exact hh
 ·rw [if_neg hn] at hh ⊢
  obtain ⟨v1,v2,v3,v4,arr,v5,v6,v7⟩:=hh
  refine ⟨⟨(Array.getElem?_eq_some_iff.1 v5).1,.inr ⟨c,(bH c rd).1 hrd,v2⟩⟩,fun i hi => ?_⟩
  obtain ⟨q,n',ln',g',ad,i',cp,m1,m2,m3,m4,m5,m6⟩:=h i hi
  obtain ⟨O,k1,k2⟩:=hr q ((bH q rd).1 m2) _ m1
  obtain ⟨_,e2⟩:=v7 i hi
  have e3:=e2 0 (.slice (ad i') (ln' i') cp) (by rw [m4];rfl)
  refine ⟨ad i',cp,?_,fun h0 => ?_⟩
  ·simp only [Loc.addr,v1,Nat.zero_add]
   rw [cell_of_row w _ _ arr e _ v5]
   simp only [Nat.mul_one,Nat.add_zero] at e3
   rw [e3,m5]
  ·rw [← m5] at h0 ⊢
   rw [← m6]
   obtain ⟨a,b1,b2,b3⟩:=k2 i' m3 h0
   exact ⟨a,b1,⟨(k1 _ b2).2,.inl (k1 _ b2).1⟩,b3⟩
theorem u7 (sz:Nat) (ln:Nat→Nat) (g:Nat→Nat→List Value):bC M rd (.one (.raw (.slice none 0 0))) (.rows sz 0 ln g):=by
 refine bC.rows ?_
 intro β ow w v _ h _
 simp only [CV.rel,SV.rel] at h
 subst h
 exact ⟨⟨0,0,0,true,fun _=>0⟩,by simp [SV.rel],fun _=>False,fun _ h=>h.elim,by simp [Bz]⟩
end
open Go.RowKit
def St.oG (S:St) (ids:List Nat) (l:List Chunk):St:=⟨Ba (JH ids l S.nx) S.slots,(S.nx,.abs (mK l))::mapM (vC ids l S.nx) (S.mem.mD ids),S.nx + 1⟩
theorem aN.NG {C:Ctx} {S:St} (ids:List Nat) (l:List Chunk) (hnd:ids.Nodup) (hlen:ids.length=l.length) (hl:(l.all fun ch=>ch.closed && !ch.fD)=true) (hm:∀ (j i:Nat) (ch:Chunk),ids[j]? = some i→l[j]? = some ch→∃ ch0,S.mem.get i=some ch0∧kZ ch0 ch):aN C S (S.oG ids l):=by
 rintro a w ⟨β,ow,g1,g2,g3,g4,g5⟩
 have hon:∀ k c,ow k=some c→c<S.nx:=fun k c h=>by simpa using g5 k c h
 have hl':∀ (j:Nat) (ch:Chunk),l[j]? = some ch→ch.fD=false∧ch.closed=true:=fun j ch hj=>by
  have:=List.all_eq_true.1 hl ch (List.mem_of_getElem? hj)
  simp only [Bool.and_eq_true,Bool.not_eq_true'] at this
  exact ⟨this.2,this.1⟩
 have hH:∀ (j i:Nat) (ch:Chunk),ids[j]? = some i→l[j]? = some ch→i<S.nx∧Holds β ow w i ch:=fun j i ch hi hj=>by
  obtain ⟨ch0,h1,h2⟩:=hm j i ch hi hj
  exact ⟨by simpa using (g2.mem i _ h1).1,h2.holds (g1.mem i _ h1)⟩
 have hids:∀ i∈ids,∃ j ch,ids[j]? = some i∧l[j]? = some ch:=fun i hi=>by
  obtain ⟨j,hj⟩:=List.getElem?_of_mem hi
  have:=(List.getElem?_eq_some_iff.1 hj).1
  exact ⟨j,l[j]'(by omega),hj,List.getElem?_eq_getElem (by omega)⟩
 have hbase:∀ i∈ids,(β i).nil=true∨(β i).base=0:=fun i hi=>by
  obtain ⟨j,ch,h1,h2⟩:=hids i hi
  have h3:=(hH j i ch h1 h2).2
  obtain ⟨k1,k2⟩:=hl' j ch h2
  cases ch with
  | cells e cs=>exact .inr h3.2.1
  | vec e sz n f =>
   simp only [Holds] at h3
   by_cases hn:(β i).nil=true
   ·exact .inl hn
   ·rw [if_neg hn] at h3;exact .inr h3.1
  | abs A=>exact .inr h3.2.1
  | ro _ _ _=>cases k1
  | ext _=>cases k1
 have hinx:∀ i∈ids,i<S.nx:=fun i hi=>by
  obtain ⟨j,ch,h1,h2⟩:=hids i hi
  exact (hH j i ch h1 h2).1
 let L:Nat→Loc:=fun j=>β (ids.getD j 0)
 have hL:∀ (j i:Nat),ids[j]? = some i→L j=β i:=fun j i h=>by simp [L,List.getD_eq_getElem?_getD,h]
 let β':=aX β S.nx (Loc.mk 0 0 0 false (lN ids.length L))
 let ow':Nat→Option Nat:=fun k=>match ow k with |some c=>if c∈ids then some S.nx else some c |none=>none
 have hold:∀ c,Nat.blt c S.nx=true→β' c=β c:=fun c hc=>by
  have:c≠S.nx:=by
    have:c<S.nx:=by simpa using hc
    omega
  simp [β',aX,this]
 have hnew:β' S.nx=Loc.mk 0 0 0 false (lN ids.length L):=by simp [β',aX]
 have hup:∀ c,Nat.blt c S.nx=true→Nat.blt c (S.nx + 1)=true:=fun c hc=>by simp only [Nat.blt_eq] at hc ⊢;omega
 have hother:∀ c k,c ∉ ids→c<S.nx→(ow' k=some c↔ow k=some c):=by
  intro c k e1 e2
  simp only [ow']
  cases hk:ow k with
  | none=>simp
  | some c0 =>
   simp only
   by_cases h:c0∈ids
   ·rw [if_pos h]
    simp only [Option.some.injEq]
    exact ⟨fun e=>by omega,fun e=>absurd (e▸h) e1⟩
   ·rw [if_neg h]
 have hmine:∀ k,ow' k=some S.nx↔∃ i∈ids,ow k=some i:=by
  intro k
  simp only [ow']
  cases hk:ow k with
  | none=>simp
  | some c0 =>
   simp only
   by_cases h:c0∈ids
   ·rw [if_pos h];simp [h]
   ·rw [if_neg h]
    simp only [Option.some.injEq]
    constructor
    ·intro e;have:=hon k _ hk;omega
    ·rintro ⟨i,h1,h2⟩;exact absurd (h2▸h1) h
 have hinner:∀ (j i:Nat),ids[j]? = some i→(β' S.nx).inner ids.length j=⟨(β i).blk,0,(β i).cap,(β i).nil,(β i).sub⟩:=fun j i h=>by
  rw [hnew,zh _ _ (List.getElem?_eq_some_iff.1 h).1,hL j i h]
 have hP:Packs β β' ids l S.nx (fun c=>Nat.blt c S.nx):=⟨hold,fun j c h=>by rw [hinner j c h];exact ⟨rfl,rfl,rfl⟩,hbase,fun k c h hv=>by
  obtain ⟨j,ch,h1,h2⟩:=hids c (List.mem_of_getElem? h)
  obtain rfl:j=k:=by
   have:=cB hnd h
   rw [cB hnd h1] at this;cases this;rfl
  have h3:=(hH j c ch h1 h2).2
  obtain ⟨k1,_⟩:=hl' j ch h2
  cases ch with
  | cells e cs=>exact h3.2.1
  | vec e sz n f=>simp [u6,iT,h2] at hv
  | abs A=>exact h3.2.1
  | ro _ _ _=>cases k1
  | ext _=>cases k1⟩
 refine ⟨β',ow',⟨g1.defers,?_,fun t X hX => ?_,fun c ch hc => ?_,fun k hk => ?_⟩,⟨fun t X hX => ?_,fun c ch hc => ?_⟩,⟨g3.os,g3.tape,g3.output,g3.size,fun k e1 e2 => ?_,fun c hc=>by rw [hold c (by simp only [Nat.blt_eq];omega)];exact g3.beta c hc⟩,by simp only [St.oG];omega,fun k c hc => ?_⟩
 ·rw [g1.size];simp [St.oG,mg]
 ·simp only [St.oG,l9,Option.map_eq_some_iff] at hX
  obtain ⟨X0,h1,rfl⟩:=hX
  exact Fw hP (g2.slots t X0 h1) (g1.slots t X0 h1)
 ·simp only [St.oG,Mem.get,aL,yw,Mem.eU] at hc
  by_cases hcc:S.nx=c
  ·subst hcc
   simp only [decide_true,cond_true,Option.some.injEq] at hc
   subst hc
   refine ⟨by rw [hnew],by rw [hnew],?_⟩
   refine ⟨fun j=>(β' S.nx).inner ids.length j,fun k=>(ow k).bind fun c=>lidx c ids,fun k hk => ?_,fun k => ?_,fun j hj => ?_,fun k c hk => ?_,hl',fun j ch hj => ?_⟩
   ·cases h0:ow k with
    | none=>exact absurd (show ((ow k).bind fun c=>lidx c ids)=none by rw [h0];rfl) hk
    | some c=>exact g1.wf k (by simp [h0])
   ·simp only [hmine]
    constructor
    ·rintro ⟨i,h1,h2⟩
     obtain ⟨j,hj⟩:=List.getElem?_of_mem h1
     rw [h2];simp [cB hnd hj]
    ·intro h
     cases h0:ow k with
     | none=>rw [h0] at h;exact absurd rfl h
     | some c =>
      rw [h0] at h
      cases h1:lidx c ids with
      | none=>simp [h1] at h
      | some j=>exact ⟨c,List.mem_of_getElem? (fM h1),rfl⟩
   ·rw [hlen,hnew];rfl
   ·obtain ⟨c0,h1,h2⟩:=Option.bind_eq_some_iff.1 hk
    rw [← hlen];exact (List.getElem?_eq_some_iff.1 (fM h2)).1
   ·have hjl:j<ids.length:=by rw [hlen];exact (List.getElem?_eq_some_iff.1 hj).1
    obtain ⟨i,hi⟩:∃ i,ids[j]? = some i:=⟨_,List.getElem?_eq_getElem hjl⟩
    obtain ⟨k1,k2⟩:=hl' j ch hj
    have hh:=(hH j i ch hi hj).2
    have ho:∀ k,((ow k).bind fun c=>lidx c ids)=some j↔ow k=some i:=fun k=>by
     rw [Option.bind_eq_some_iff]
     constructor
     ·rintro ⟨c,h1,h2⟩
      have:=fM h2
      rw [hi] at this;cases this;exact h1
     ·intro h;exact ⟨i,h,cB hnd hi⟩
    have hin:=hinner j i hi
    by_cases hz:(β i).nil=true∧u6 l j=true
    ·cases ch with
     | vec e sz n f =>
      simp only [Holds] at hh ⊢
      rw [if_pos hz.1] at hh
      rw [if_pos (by rw [hin];exact hz.1)]
      exact hh
     | _=>simp [u6,iT,hj] at hz
    ·have hbb:(β i).base=0:=by
      rcases hbase i (List.mem_of_getElem? hi) with h |h
      ·exact hP.obj j i hi (by simpa using fun e=>hz ⟨h,e⟩)
      ·exact h
     have:=Holds.trans (β:=β) (β':=fun j=>(β' S.nx).inner ids.length j) (ow:=ow) (ow':=fun k=>(ow k).bind fun c=>lidx c ids) (w:=w) (w':=w) (c:=i) (c':=j) (ρ:=id) (ch:=ch) (p:=fun _=>false) (Chunk.um k2) (fun _ h=>by cases h) (by simp only [hin]) (by simp only [hin,hbb]) (by simp only [hin]) (.inl ⟨by simp only [hin],by simp only [hin]⟩) k1 ho (fun k hk=>rfl) hh
     rwa [Chunk.aM k2] at this
  ·simp only [hcc,decide_false,cond_false,Option.map_eq_some_iff] at hc
   obtain ⟨ch0,hc,rfl⟩:=hc
   split at hc
   ·cases hc
   ·rename_i hni
    obtain ⟨k1,k2⟩:=g2.mem c ch0 hc
    have hlt:c<S.nx:=by simpa using k1
    have hh:=g1.mem c ch0 hc
    cases ch0 with
    | cells e cs =>
     obtain ⟨h3,h4,h5,arr,h6,h7⟩:=hh
     exact ⟨by rw [hold c k1];exact h3,by rw [hold c k1];exact h4,by rw [hold c k1,hother c _ hni hlt];exact h5,arr,by rw [hold c k1];exact h6,wH hP k2 h7⟩
    | _=>exact Holds.keep k2 hold (hold c k1) (fun _ k=>hother c k hni hlt) (fun _ k hn=>by simp [ow',hn]) hh
 ·simp only [ow'] at hk
  cases h0:ow k with
  | none=>rw [h0] at hk;exact absurd rfl hk
  | some c=>exact g1.wf k (by simp [h0])
 ·simp only [St.oG,l9,Option.map_eq_some_iff] at hX ⊢
  obtain ⟨X0,h1,rfl⟩:=hX
  exact JI hup (by simp) (g2.slots t X0 h1)
 ·simp only [St.oG,Mem.get,aL,yw,Mem.eU] at hc ⊢
  by_cases hcc:S.nx=c
  ·subst hcc
   simp only [decide_true,cond_true,Option.some.injEq] at hc
   subst hc
   exact ⟨by simp,rfl⟩
  ·simp only [hcc,decide_false,cond_false,Option.map_eq_some_iff] at hc
   obtain ⟨ch0,hc,rfl⟩:=hc
   split at hc
   ·cases hc
   ·obtain ⟨k1,k2⟩:=g2.mem c ch0 hc
    refine ⟨hup c k1,?_⟩
    cases ch0 with
    | cells e cs=>exact Cx (fun s hs=>CY hup (by simp) hs) k2
    | _=>rfl
 ·obtain ⟨e3,e4⟩:=g3.keep k e1 e2
  exact ⟨e3,by simp [ow',e4]⟩
 ·simp only [ow'] at hc
  cases h0:ow k with
  | none=>rw [h0] at hc;cases hc
  | some c1 =>
   rw [h0] at hc
   simp only at hc
   by_cases h:c1∈ids
   ·rw [if_pos h] at hc
    simp only [Option.some.injEq] at hc
    subst hc;simp [St.oG]
   ·rw [if_neg h] at hc
    simp only [Option.some.injEq] at hc
    subst hc;exact hup c1 (g5 k c1 h0)
theorem Jh {M:Mem} {rd:List Nat} {c j m k n e sz:Nat} {l:List Chunk} {f g:Nat→List Value} (hm:M.get c=some (.abs (mK l))) (hrd:gI c rd=true) (hml:m=l.length) (hl:l[j]? = some (.vec e sz n f)) (hk:k≤n) (hg:∀ i,i<k→g i=f i):bC M rd (.one (.ins c m j k)) (.row sz k g):=by
 subst hml
 refine bC.row ?_
 intro β ow w v _ h hr
 obtain ⟨p1,p2,βP,owP,q1,q2,q3,q4,q5,q6⟩:=hr c ((bH c rd).1 hrd) _ hm
 replace q2:∀ k,ow k=some c↔owP k≠none:=q2
 have hsub:(⟨(β c).blk,0,subs (β c) 0,false,fun j=>subs (β c) (j + 1)⟩:Loc)=β c:=by
  cases hb:β c with
  | mk blk base cap nil sub =>
   rw [hb] at p1 p2
   simp only at p1 p2
   subst p1 p2
   rfl
 have hj:j<l.length:=(List.getElem?_eq_some_iff.1 hl).1
 have hβ:βP j=(β c).inner l.length j:=by rw [q3 j hj,hsub]
 have hh:=q6 j _ hl
 simp only [Holds] at hh
 simp only [CV.rel,SV.rel] at h
 rw [← hβ] at h
 refine ⟨βP j,?_,?_⟩
 ·simp only [SV.rel]
  by_cases hn:(βP j).nil=true
  ·rw [if_pos hn] at h ⊢
   exact ⟨h.1,trivial,h.2⟩
  ·rw [if_neg hn] at h ⊢
   obtain ⟨a,h1,h2,h3⟩:=h
   exact ⟨a,by simpa using h1,by omega,fun h0=>by rw [h3 h0,Nat.zero_mul]⟩
 ·unfold ql
  by_cases hn:(βP j).nil=true
  ·rw [if_pos hn] at h ⊢
   exact h.2
  ·rw [if_neg hn] at hh ⊢
   obtain ⟨v1,v2,v3,v4,arr,v5,v6,v7⟩:=hh
   refine ⟨⟨(Array.getElem?_eq_some_iff.1 v5).1,.inr ⟨c,(bH c rd).1 hrd,(q2 _).2 (by rw [v2];simp)⟩⟩,fun i hi => ?_⟩
   obtain ⟨e1,e2⟩:=v7 i (by omega)
   rw [hg i hi]
   refine ⟨e1,fun q u hu => ?_⟩
   simp only [Loc.addr,v1,Nat.zero_add]
   have:=e2 q u hu
   rw [cell_of_row w _ _ arr e _ v5]
   exact this
open Go.RowKit
def AC.at (w:World) (O:Nat→Prop):AC→Option Addr×Nat→Value→Prop
 | .raw u,_,v=>v=u
 | .row sz n f,p,v=>v = .slice p.1 n p.2∧((p=(none,0)∧n=0)∨∃ a b off,p.1=some a∧n≤p.2∧(0<p.2→a=⟨b,off,none⟩)∧O b∧∀ k,k<n→(f k).length=sz∧∀ j u,(f k)[j]? = some u→w.cell? ⟨b,off + (k * sz + j),none⟩=some u)
theorem AC.jk {w w':World} {O O':Nat→Prop} (hO:∀ k,O k→O' k) (hk:∀ k,O k→w'.heap[k]? = w.heap[k]?) {x:AC} {p:Option Addr×Nat} {v:Value} (h:x.at w O p v):x.at w' O' p v:=by
 cases x with
 | raw u=>exact h
 | row sz n f =>
  obtain ⟨h1,h2⟩:=h
  refine ⟨h1,h2.imp id ?_⟩
  rintro ⟨a,b,off,e1,e2,e3,e4,e5⟩
  refine ⟨a,b,off,e1,e2,e3,hO _ e4,fun k hkn=>⟨(e5 k hkn).1,fun j u hj => ?_⟩⟩
  rw [World.cell?_of_block (w:=w) (hk _ e4)]
  exact (e5 k hkn).2 j u hj
def dK:Nat→List AC→(Nat→Option Addr×Nat)→List Value
 | _,[],_=>[]
 | j,.raw u::r,g=>u::dK (j + 1) r g
 | j,.row _ n _::r,g => .slice (g j).1 n (g j).2::dK (j + 1) r g
theorem mX:∀ (l:List AC) (j:Nat) (g:Nat→Option Addr×Nat),(dK j l g).length=l.length
 | [],_,_=>rfl
 | .raw _::r,j,g=>by simp [dK,mX r]
 | .row _ _ _::r,j,g=>by simp [dK,mX r]
theorem BU {w:World} {O:Nat→Prop}:∀ (l:List AC) (j0:Nat) (g:Nat→Option Addr×Nat) (j:Nat) (x:AC) (v:Value),l[j]? = some x→x.at w O (g (j0 + j)) v→(dK j0 l g)[j]? = some v
 | [],_,_,_,_,_,h,_=>by simp at h
 | y::r,j0,g,0,x,v,h,hx=>by
  simp only [List.getElem?_cons_zero,Option.some.injEq] at h
  subst h
  cases y with
  | raw u=>simp only [AC.at] at hx;simp [dK,hx]
  | row sz n f=>obtain ⟨h1,_⟩:=hx;simp [dK,h1]
 | y::r,j0,g,j + 1,x,v,h,hx=>by
  have h':r[j]? = some x:=by simpa using h
  have:=BU r (j0 + 1) g j x v h' (by rw [show j0 + 1 + j=j0 + (j + 1) by omega];exact hx)
  cases y<;>simpa [dK] using this
theorem ES:∀ (l:List AC) (j0:Nat) (g:Nat→Option Addr×Nat) (j:Nat) (v:Value),(dK j0 l g)[j]? = some v→∃ x,l[j]? = some x∧(∀ u,x = .raw u→v=u)∧∀ sz n f,x = .row sz n f→v = .slice (g (j0 + j)).1 n (g (j0 + j)).2
 | [],_,_,_,_,h=>by simp [dK] at h
 | y::r,j0,g,0,v,h=>by
  refine ⟨y,rfl,fun u e => ?_,fun sz n f e => ?_⟩
  ·subst e;simpa [dK] using h.symm
  ·subst e;simpa [dK] using h.symm
 | y::r,j0,g,j + 1,v,h=>by
  have h':(dK (j0 + 1) r g)[j]? = some v:=by cases y<;>simpa [dK] using h
  obtain ⟨x,h1,h2,h3⟩:=ES r (j0 + 1) g j v h'
  refine ⟨x,by simpa using h1,h2,fun sz n f e => ?_⟩
  have:=h3 sz n f e
  rwa [show j0 + 1 + j=j0 + (j + 1) by omega] at this
def iP (e sz n:Nat) (F:Nat→List AC):mQ where
 Φ w b s O:=O b∧n≤s 0∧s 0≤maxLen∧(∀ k,O k→k<w.heap.size)∧∃ arr:Array Value,w.heap[b]? = some (.cells arr e (0,0))∧arr.size=s 0 * sz ∧
  ∀ i,i<n→(F i).length=sz∧∀ j x,(F i)[j]? = some x→∃ p v,arr[i * sz + j]? = some v∧x.at w (fun k=>O k∧k≠b) p v
 loc:=by
  rintro w w' b s O O' hk hO ⟨h1,h2,h3,h4,arr,h5,h6,h7⟩
  refine ⟨(hO b).2 h1,h2,h3,fun k hk' => ?_,arr,by rw [hk b h1];exact h5,h6,fun i hi=>⟨(h7 i hi).1,fun j x hx => ?_⟩⟩
  ·have hk1:=(hO k).1 hk'
   have e:=hk k hk1
   rw [Array.getElem?_eq_getElem (h4 k hk1)] at e
   exact (Array.getElem?_eq_some_iff.1 e).1
  ·obtain ⟨p,v,e1,e2⟩:=(h7 i hi).2 j x hx
   exact ⟨p,v,e1,AC.jk (x:=x) (p:=p) (v:=v) (fun k hk'=>⟨(hO k).2 hk'.1,hk'.2⟩) (fun k hk'=>hk k hk'.1) e2⟩
 in_heap:=by
  rintro w b s O ⟨_,_,_,h4,_⟩
  exact h4
def dP (n:Nat) (F:Nat→List AC) (ad:Nat→Nat→Option Addr×Nat):mQ where
 Φ w _ _ O:=(∀ k,O k→k<w.heap.size)∧∀ i,i<n→∀ j x,(F i)[j]? = some x→∃ v,AC.at w O x (ad i j) v
 loc:=by
  rintro w w' b s O O' hk hO ⟨h4,h5⟩
  refine ⟨fun k hk' => ?_,fun i hi j x hx => ?_⟩
  ·have hk1:=(hO k).1 hk'
   have e:=hk k hk1
   rw [Array.getElem?_eq_getElem (h4 k hk1)] at e
   exact (Array.getElem?_eq_some_iff.1 e).1
  ·obtain ⟨v,e2⟩:=h5 i hi j x hx
   exact ⟨v,AC.jk (x:=x) (p:=ad i j) (v:=v) (fun k hk'=>(hO k).2 hk') hk e2⟩
 in_heap:=by
  rintro w b s O ⟨h4,_⟩
  exact h4
theorem av.Sc {P:Program} {C:Ctx} {cd:Code} {S:St} {Q:Exit→St→Prop} {c e sz n:Nat} {F:Nat→List AC} (hc:S.mem.get c=some (.abs (iP e sz n F)))
  (h:∀ ad:Nat→Nat→Option Addr×Nat,av P C cd ⟨S.slots,(c,.vec e sz n fun i=>dK 0 (F i) (ad i))::(S.nx,.abs (dP n F ad))::S.mem.del c,S.nx + 1⟩ Q):av P C cd S Q:=by
 intro a w hs
 obtain ⟨β,ow,g1,g2,g3,g4,g5⟩:=hs
 obtain ⟨k0,k1,m1,m2,m3,m4,arr,m5,m6,m7⟩:=g1.mem c _ hc
 have hcn:c<S.nx:=by simpa using (g2.mem c _ hc).1
 have hch:∀ ij:Nat×Nat,∃ p:Option Addr×Nat,ij.1<n→∀ x,(F ij.1)[ij.2]? = some x→∃ v,arr[ij.1 * sz + ij.2]? = some v∧x.at w (fun k=>ow k=some c∧k≠(β c).blk) p v:=by
  rintro ⟨i,j⟩
  by_cases hi:i<n
  ·cases hx:(F i)[j]? with
   | none=>exact ⟨(none,0),fun _ x hx'=>by cases hx'⟩
   | some x =>
    obtain ⟨p,v,e1,e2⟩:=(m7 i hi).2 j x hx
    exact ⟨p,fun _ x' hx'=>by cases hx';exact ⟨v,e1,e2⟩⟩
  ·exact ⟨(none,0),fun h=>absurd h hi⟩
 obtain ⟨ad0,had⟩:=Classical.axiomOfChoice hch
 let ad:Nat→Nat→Option Addr×Nat:=fun i j=>ad0 (i,j)
 have had':∀ i,i<n→∀ j x,(F i)[j]? = some x→∃ v,arr[i * sz + j]? = some v∧x.at w (fun k=>ow k=some c∧k≠(β c).blk) (ad i j) v:=fun i hi j x hx=>had (i,j) hi x hx
 have hnone:∀ k,ow k≠some S.nx:=fun k e=>by
  have:=g5 k S.nx e
  simp only [Nat.blt_eq] at this
  omega
 let ow':Nat→Option Nat:=fun k=>if ow k=some c∧k≠(β c).blk then some S.nx else ow k
 let β':Nat→Loc:=fun x=>if x=S.nx then ⟨0,0,0,false,fun _=>0⟩ else β x
 have hβ:∀ x,Nat.blt x S.nx=true→β' x=β x:=fun x hx=>by
  simp only [Nat.blt_eq] at hx
  simp only [β'];rw [if_neg (by omega)]
 have howc:∀ k,ow' k=some c↔k=(β c).blk:=by
  intro k
  simp only [ow']
  split
  ·rename_i h1
   simp only [Option.some.injEq]
   exact ⟨fun e=>by omega,fun e=>absurd e h1.2⟩
  ·rename_i h1
   refine ⟨fun e => ?_,fun e=>by rw [e];exact m1⟩
   by_cases h2:k=(β c).blk
   ·exact h2
   ·exact absurd ⟨e,h2⟩ h1
 have hown:∀ k,ow' k=some S.nx↔(ow k=some c∧k≠(β c).blk):=by
  intro k
  simp only [ow']
  split
  ·rename_i h1;exact ⟨fun _=>h1,fun _=>rfl⟩
  ·rename_i h1;exact ⟨fun e=>absurd e (hnone k),fun e=>absurd e h1⟩
 have hother:∀ x k,x≠c→x≠S.nx→(ow' k=some x↔ow k=some x):=by
  intro x k e1 e2
  simp only [ow']
  split
  ·rename_i h1
   rw [h1.1]
   simp only [Option.some.injEq]
   exact ⟨fun e=>absurd e.symm e2,fun e=>absurd e.symm e1⟩
  ·exact Iff.rfl
 have up:∀ i,Nat.blt i S.nx=true→Nat.blt i (S.nx + 1)=true:=fun i hi=>by simp only [Nat.blt_eq] at hi ⊢;omega
 refine h ad a w ⟨β',ow',⟨g1.defers,g1.size,fun t X hX=>XV.aW hβ (g2.slots t X hX) (g1.slots t X hX),fun c' ch hc' => ?_,fun k hk => ?_⟩,⟨fun t X hX=>XV.aG up (g2.slots t X hX),fun c' ch hc' => ?_⟩,⟨g3.os,g3.tape,g3.output,g3.size,fun k e1 e2 => ?_,fun x hx => ?_⟩,Nat.le_succ_of_le g4,fun k c' hk => ?_⟩
 ·simp only [Mem.get,aL] at hc'
  by_cases hcc:c=c'
  ·subst hcc
   simp only [decide_true,cond_true,Option.some.injEq] at hc'
   subst hc'
   have e0:β' c=β c:=hβ c (by simpa using hcn)
   simp only [Holds]
   rw [e0,if_neg (by rw [k0];decide)]
   refine ⟨k1,(howc _).2 rfl,m2,m3,arr,m5,m6,fun i hi=>⟨by rw [mX];exact (m7 i hi).1,fun j v hj => ?_⟩⟩
   obtain ⟨x,hx,_,_⟩:=ES (F i) 0 (ad i) j v hj
   obtain ⟨v',e1,e2⟩:=had' i hi j x hx
   have e3:=BU (w:=w) (F i) 0 (ad i) j x v' hx (by rw [Nat.zero_add];exact e2)
   rw [hj] at e3
   cases e3
   exact e1
  ·simp only [hcc,decide_false,cond_false] at hc'
   by_cases hcn':S.nx=c'
   ·simp only [hcn',decide_true,cond_true,Option.some.injEq] at hc'
    subst hc'
    have e0:β' c'=⟨0,0,0,false,fun _=>0⟩:=by simp only [β'];rw [if_pos hcn'.symm]
    simp only [Holds]
    rw [e0]
    refine ⟨rfl,rfl,fun k hk => ?_,fun i hi j x hx => ?_⟩
    ·rw [← hcn'] at hk
     exact m4 k ((hown k).1 hk).1
    ·obtain ⟨v,_,e2⟩:=had' i hi j x hx
     exact ⟨v,AC.jk (x:=x) (p:=ad i j) (v:=v) (fun k hk=>by rw [← hcn'];exact (hown k).2 hk) (fun _ _=>rfl) e2⟩
   ·simp only [hcn',decide_false,cond_false,Mem.eP] at hc'
    have hne:¬ c'=c:=fun e=>hcc e.symm
    rw [if_neg hne] at hc'
    exact Holds.keep (g2.mem c' ch hc').2 hβ (hβ c' (g2.mem c' ch hc').1) (fun _ k=>hother c' k hne (fun e=>hcn' e.symm)) (fun _ k hn=>by simp [ow',hn]) (g1.mem c' ch hc')
 ·simp only [ow'] at hk
  split at hk
  ·rename_i h1;exact m4 k h1.1
  ·exact g1.wf k hk
 ·simp only [Mem.get,aL] at hc'
  by_cases hcc:c=c'
  ·subst hcc
   simp only [decide_true,cond_true,Option.some.injEq] at hc'
   subst hc'
   exact ⟨by simp only [Nat.blt_eq];omega,rfl⟩
  ·simp only [hcc,decide_false,cond_false] at hc'
   by_cases hcn':S.nx=c'
   ·simp only [hcn',decide_true,cond_true,Option.some.injEq] at hc'
    subst hc'
    exact ⟨by simp only [Nat.blt_eq];omega,rfl⟩
   ·simp only [hcn',decide_false,cond_false,Mem.eP] at hc'
    have hne:¬ c'=c:=fun e=>hcc e.symm
    rw [if_neg hne] at hc'
    obtain ⟨n1,n2⟩:=g2.mem c' ch hc'
    exact ⟨up _ n1,Chunk.aG up n2⟩
 ·obtain ⟨e3,e4⟩:=g3.keep k e1 e2
  exact ⟨e3,by simp [ow',e4]⟩
 ·rw [hβ x (by simp only [Nat.blt_eq];omega)]
  exact g3.beta x hx
 ·simp only [ow'] at hk
  split at hk
  ·cases hk;simp only [Nat.blt_eq];omega
  ·exact up _ (g5 k c' hk)
theorem gK {M:Mem} {rd:List Nat} {q n i j sz k:Nat} {F:Nat→List AC} {ad:Nat→Nat→Option Addr×Nat} {f:Nat→List Value} (hm:M.get q=some (.abs (dP n F ad))) (hrd:gI q rd=true) (hi:i<n) (hx:(F i)[j]? = some (.row sz k f)):bC M rd (.one (.raw (.slice (ad i j).1 k (ad i j).2))) (.row sz k f):=by
 refine bC.row ?_
 intro β ow w v hw hv hr
 simp only [CV.rel,SV.rel] at hv
 obtain ⟨_,_,h4,h5⟩:=hr q ((bH q rd).1 hrd) _ hm
 obtain ⟨v',_,h2⟩:=h5 i hi j _ hx
 rcases h2 with ⟨e1,e2⟩ |⟨a,b,off,e1,e2,e3,e4,e5⟩
 ·refine ⟨⟨0,0,0,true,fun _=>0⟩,?_,?_⟩
  ·simp only [SV.rel,if_true]
   rw [hv,e1,e2]
   simp
  ·simp [ql,e2]
 ·refine ⟨⟨b,off,(ad i j).2,false,fun _=>0⟩,?_,?_⟩
  ·simp only [SV.rel,Bool.false_eq_true,if_false]
   refine ⟨a,by rw [hv,e1,Nat.sub_zero],by omega,fun h0 => ?_⟩
   rw [e3 h0]
   simp [Loc.addr]
  ·simp only [ql,Bool.false_eq_true,if_false]
   refine ⟨⟨h4 b e4,.inr ⟨q,(bH q rd).1 hrd,e4⟩⟩,fun k' hk'=>⟨(e5 k' hk').1,fun j' u hj' => ?_⟩⟩
   exact (e5 k' hk').2 j' u hj'
open Go.RowKit
def rH (M:Mem) (qs:List Nat) (x:AC) (p:Option Addr×Nat):Prop :=
 (∃ u,x = .raw u)∨(∃ sz f,x = .row sz 0 f∧p=(none,0))∨∃ q n F ad i j,q∈qs∧M.get q=some (.abs (dP n F ad))∧i<n∧(F i)[j]? = some x∧ad i j=p
theorem rH.old {M:Mem} {qs:List Nat} {q n i j:Nat} {F:Nat→List AC} {ad:Nat→Nat→Option Addr×Nat} {x:AC} (hq:q∈qs) (hm:M.get q=some (.abs (dP n F ad))) (hi:i<n) (hx:(F i)[j]? = some x):rH M qs x (ad i j) := .inr (.inr ⟨q,n,F,ad,i,j,hq,hm,hi,hx,rfl⟩)
theorem aN.Dw {C:Ctx} {S:St} {c e sz m n:Nat} {G:Nat→List Value} {F:Nat→List AC} {ad:Nat→Nat→Option Addr×Nat} (qs:List Nat) (hc:S.mem.get c=some (.vec e sz m G)) (h0:0<n) (hn:n≤m) (hcq:c ∉ qs)
  (hG:∀ i,i<n→G i=dK 0 (F i) (ad i)) (hF:∀ i,i<n→∀ j x,(F i)[j]? = some x→rH S.mem qs x (ad i j)):aN C S ⟨S.slots,(c,.abs (iP e sz n F))::S.mem.mD (c::qs),S.nx⟩:=by
 rintro a w ⟨β,ow,g1,g2,g3,g4,g5⟩
 have hh:=g1.mem c _ hc
 simp only [Holds] at hh
 by_cases hnil:(β c).nil=true
 ·rw [if_pos hnil] at hh;omega
 rw [if_neg hnil] at hh
 obtain ⟨v1,v2,v3,v4,arr,v5,v6,v7⟩:=hh
 have hcn:c<S.nx:=by simpa using (g2.mem c _ hc).1
 let ow':Nat→Option Nat:=fun k=>match ow k with |some q=>if q∈qs then some c else some q |none=>none
 have howc:∀ k,ow' k=some c↔(ow k=some c∨∃ q∈qs,ow k=some q):=by
  intro k
  simp only [ow']
  cases hk:ow k with
  | none=>simp
  | some q =>
   simp only [Option.some.injEq]
   split
   ·rename_i h;exact ⟨fun _ => .inr ⟨q,h,rfl⟩,fun _=>rfl⟩
   ·rename_i h
    simp only [Option.some.injEq]
    exact ⟨fun e => .inl e,fun e=>e.elim id fun ⟨q',h1,h2⟩=>absurd (h2▸h1) h⟩
 have hother:∀ x k,x≠c→x ∉ qs→(ow' k=some x↔ow k=some x):=by
  intro x k e1 e2
  simp only [ow']
  cases hk:ow k with
  | none=>simp
  | some q =>
   simp only
   split
   ·rename_i h
    simp only [Option.some.injEq]
    exact ⟨fun e=>absurd e.symm e1,fun e=>absurd (e▸h) e2⟩
   ·exact Iff.rfl
 have hnone:∀ k,ow' k=none↔ow k=none:=by
  intro k
  simp only [ow']
  cases hk:ow k with
  | none=>simp
  | some q=>simp only [reduceCtorEq,iff_false];split<;>simp
 refine ⟨β,ow',⟨g1.defers,g1.size,g1.slots,fun c' ch hc' => ?_,fun k hk=>g1.wf k fun e=>hk ((hnone k).2 e)⟩,⟨g2.slots,fun c' ch hc' => ?_⟩,⟨g3.os,g3.tape,g3.output,g3.size,fun k e1 e2 => ?_,g3.beta⟩,g4,fun k c' hk => ?_⟩
 ·simp only [Mem.get,aL] at hc'
  by_cases hcc:c=c'
  ·subst hcc
   simp only [decide_true,cond_true,Option.some.injEq] at hc'
   subst hc'
   have hlt:∀ k,ow' k=some c→k<w.heap.size:=fun k hk=>g1.wf k fun e=>by rw [(hnone k).2 e] at hk;cases hk
   refine ⟨by simpa using hnil,v1,(howc _).2 (.inl v2),Nat.le_trans hn v3,v4,hlt,arr,v5,v6,fun i hi => ?_⟩
   obtain ⟨w1,w2⟩:=v7 i (by omega)
   rw [hG i hi,mX] at w1
   refine ⟨w1,fun j x hx => ?_⟩
   have hb:=hF i hi j x hx
   have hat:AC.at w (fun k=>ow' k=some c∧k≠(β c).blk) x (ad i j) (match x with |.raw u=>u |.row _ n _ => .slice (ad i j).1 n (ad i j).2):=by
    rcases hb with ⟨u,rfl⟩ |⟨sz',f,rfl,hp⟩ |⟨q,n',F',ad',i',j',hq,hm,hi',hx',hp⟩
    ·rfl
    ·exact ⟨rfl,.inl ⟨hp,rfl⟩⟩
    ·obtain ⟨_,_,p4,p5⟩:=g1.mem q _ hm
     obtain ⟨v,hv⟩:=p5 i' hi' j' x hx'
     rw [hp] at hv
     cases x with
     | raw u=>rfl
     | row sz' n'' f =>
      have hvv:=hv.1
      subst hvv
      refine AC.jk (x := .row sz' n'' f) (p:=ad i j) (fun k hk=>⟨(howc k).2 (.inr ⟨q,hq,hk⟩),fun e => ?_⟩) (fun _ _=>rfl) hv
      rw [e,v2] at hk
      cases hk
      exact hcq hq
   refine ⟨ad i j,_,?_,hat⟩
   have hf:=BU (w:=w) (F i) 0 (ad i) j x _ hx (by rw [Nat.zero_add];exact hat)
   rw [← hG i hi] at hf
   exact w2 j _ hf
  ·simp only [hcc,decide_false,cond_false,Mem.eU] at hc'
   split at hc'
   ·cases hc'
   ·rename_i hne
    simp only [List.mem_cons,not_or] at hne
    exact Holds.keep (g2.mem c' ch hc').2 (fun _ _=>rfl) rfl (fun _ k=>hother c' k hne.1 hne.2) (fun _ k hn=>(hnone k).2 hn) (g1.mem c' ch hc')
 ·simp only [Mem.get,aL] at hc'
  by_cases hcc:c=c'
  ·subst hcc
   simp only [decide_true,cond_true,Option.some.injEq] at hc'
   subst hc'
   exact ⟨by simpa using hcn,rfl⟩
  ·simp only [hcc,decide_false,cond_false,Mem.eU] at hc'
   split at hc'
   ·cases hc'
   ·exact g2.mem c' ch hc'
 ·obtain ⟨e3,e4⟩:=g3.keep k e1 e2
  exact ⟨e3,(hnone k).2 e4⟩
 ·simp only [ow'] at hk
  cases hkk:ow k with
  | none=>rw [hkk] at hk;cases hk
  | some q =>
   rw [hkk] at hk
   simp only at hk
   split at hk
   ·cases hk;simpa using hcn
   ·cases hk;exact g5 k _ hkk
open Go.RowKit
section
variable {P:Program} {T:aU} {S:St} {d:Nat} {o:Oper}
end
theorem yj {l:List (Option XV)} {t:Nat} (h:¬ t<l.length):dD l t=none:=by
 induction l generalizing t with
 | nil=>rfl
 | cons x r ih =>
  cases t with
  | zero=>simp at h
  | succ t=>exact ih (by simpa using h)
theorem av.part {P:Program} {C:Ctx} {cd:Code} {slots:List (Option XV)} {mem:Mem} {nx:Nat} {Q:Exit→St→Prop} {v e sz n:Nat} {f:Nat→List Value} (t:Nat) (ht:dD slots t=some (XV.sv (.slc v sz 0 n))) (hm:mem.get v=some (.vec e sz n f))
  (h:∀ p:Option Addr×Nat,av P C cd ⟨om slots t (some (XV.val (.slice p.1 n p.2))),(nx,.abs (dP 1 (fun _=>[.row sz n f]) fun _ _=>p))::mem.del v,nx + 1⟩ Q):av P C cd ⟨slots,mem,nx⟩ Q:=by
 intro a w hs
 obtain ⟨β,ow,g1,g2,g3,g4,g5⟩:=hs
 have hv:=g1.mem v _ hm
 have hsl:=g1.slots t _ ht
 have hvn:v<nx:=by simpa using (g2.mem v _ hm).1
 simp only [Holds] at hv
 have hnone:∀ k,ow k≠some nx:=fun k e=>by
  have:=g5 k nx e
  simp only [Nat.blt_eq] at this
  omega
 let ow':Nat→Option Nat:=fun k=>if ow k=some v then some nx else ow k
 let β':Nat→Loc:=fun x=>if x=nx then ⟨0,0,0,false,fun _=>0⟩ else β x
 have hβ:∀ x,Nat.blt x nx=true→β' x=β x:=fun x hx=>by
  simp only [Nat.blt_eq] at hx
  simp only [β'];rw [if_neg (by omega)]
 have hown:∀ k,ow' k=some nx↔ow k=some v:=by
  intro k
  simp only [ow']
  split
  ·rename_i h1;exact ⟨fun _=>h1,fun _=>rfl⟩
  ·rename_i h1;exact ⟨fun e=>absurd e (hnone k),fun e=>absurd e h1⟩
 have hother:∀ x k,x≠v→x≠nx→(ow' k=some x↔ow k=some x):=by
  intro x k e1 e2
  simp only [ow']
  split
  ·rename_i h1
   rw [h1]
   simp only [Option.some.injEq]
   exact ⟨fun e=>absurd e.symm e2,fun e=>absurd e.symm e1⟩
  ·exact Iff.rfl
 have up:∀ i,Nat.blt i nx=true→Nat.blt i (nx + 1)=true:=fun i hi=>by simp only [Nat.blt_eq] at hi ⊢;omega
 simp only [XV.rel,CV.rel,SV.rel] at hsl
 have hp:∃ p:Option Addr×Nat,a.tmps.getD t undef = .slice p.1 n p.2∧∃ u,AC.at w (fun k=>ow k=some v) (.row sz n f) p u:=by
  by_cases hnil:(β v).nil=true
  ·rw [if_pos hnil] at hv hsl
   obtain ⟨h1,_,h2⟩:=hsl
   exact ⟨(none,0),by rw [h1,h2],_,rfl,.inl ⟨rfl,h2⟩⟩
  ·rw [if_neg hnil] at hv hsl
   obtain ⟨ad,h1,h2,h3⟩:=hsl
   obtain ⟨v1,v2,v3,v4,arr,v5,v6,v7⟩:=hv
   refine ⟨(some ad,(β v).cap),by rw [h1,Nat.sub_zero],_,rfl,.inr ⟨ad,(β v).blk,0,rfl,v3,fun h0 => ?_,v2,fun k hk => ?_⟩⟩
   ·rw [h3 h0]
    simp [Loc.addr,v1]
   ·obtain ⟨w1,w2⟩:=v7 k hk
    refine ⟨w1,fun j u hj => ?_⟩
    have:=w2 j u hj
    simp [World.cell?,v5,this]
 obtain ⟨p,hp1,u,hp2⟩:=hp
 have g4':C.n0≤nx:=g4
 have htl:t<slots.length:=by
  cases hlt:decide (t<slots.length) with
  | true=>exact of_decide_eq_true hlt
  | false=>rw [yj (of_decide_eq_false hlt)] at ht;cases ht
 refine h p a w ⟨β',ow',⟨g1.defers,?_,fun t' X hX => ?_,fun c' ch hc' => ?_,fun k hk => ?_⟩,⟨fun t' X hX => ?_,fun c' ch hc' => ?_⟩,⟨g3.os,g3.tape,g3.output,g3.size,fun k e1 e2 => ?_,fun x hx => ?_⟩,Nat.le_succ_of_le g4,fun k c' hk => ?_⟩
 ·rw [g1.size];exact (eY _ _ _).symm
 ·rw [dZ] at hX
  by_cases htt:t'=t
  ·rw [if_pos htt,if_pos htl] at hX
   cases hX
   rw [htt]
   exact hp1
  ·rw [if_neg htt] at hX
   exact XV.aW hβ (g2.slots t' X hX) (g1.slots t' X hX)
 ·simp only [Mem.get,aL] at hc'
  by_cases hcn':nx=c'
  ·simp only [hcn',decide_true,cond_true,Option.some.injEq] at hc'
   subst hc'
   have e0:β' c'=⟨0,0,0,false,fun _=>0⟩:=by simp only [β'];rw [if_pos hcn'.symm]
   simp only [Holds]
   rw [e0]
   refine ⟨rfl,rfl,fun k hk => ?_,fun i hi j x hx => ?_⟩
   ·rw [← hcn'] at hk
    exact g1.wf k (by rw [(hown k).1 hk];simp)
   ·match j with
    | 0 =>
     simp only [List.getElem?_cons_zero,Option.some.injEq] at hx
     subst hx
     exact ⟨u,AC.jk (x := .row sz n f) (p:=p) (v:=u) (fun k hk=>by rw [← hcn'];exact (hown k).2 hk) (fun _ _=>rfl) hp2⟩
    | j + 1=>simp at hx
  ·simp only [hcn',decide_false,cond_false,Mem.eP] at hc'
   split at hc'
   ·cases hc'
   ·rename_i hne
    exact Holds.keep (g2.mem c' ch hc').2 hβ (hβ c' (g2.mem c' ch hc').1) (fun _ k=>hother c' k hne (fun e=>hcn' e.symm)) (fun _ k hn=>by simp [ow',hn]) (g1.mem c' ch hc')
 ·simp only [ow'] at hk
  split at hk
  ·rename_i h1;exact g1.wf k (by rw [h1];simp)
  ·exact g1.wf k hk
 ·rw [dZ] at hX
  by_cases htt:t'=t
  ·rw [if_pos htt,if_pos htl] at hX
   cases hX
   rfl
  ·rw [if_neg htt] at hX
   exact XV.aG up (g2.slots t' X hX)
 ·simp only [Mem.get,aL] at hc'
  by_cases hcn':nx=c'
  ·simp only [hcn',decide_true,cond_true,Option.some.injEq] at hc'
   subst hc'
   exact ⟨by simp only [Nat.blt_eq];omega,rfl⟩
  ·simp only [hcn',decide_false,cond_false,Mem.eP] at hc'
   split at hc'
   ·cases hc'
   ·obtain ⟨n1,n2⟩:=g2.mem c' ch hc'
    exact ⟨up _ n1,Chunk.aG up n2⟩
 ·obtain ⟨e3,e4⟩:=g3.keep k e1 e2
  exact ⟨e3,by simp [ow',e4]⟩
 ·rw [hβ x (by simp only [Nat.blt_eq];omega)]
  exact g3.beta x hx
 ·simp only [ow'] at hk
  split at hk
  ·cases hk;simp only [Nat.blt_eq];omega
  ·exact up _ (g5 k c' hk)
open Go.RowKit
def Bb:Nat→List Chunk→Mem
 | _,[]=>[]
 | k,c::r=>(k,c)::Bb (k + 1) r
theorem sN:∀ (l:List Chunk) (k i:Nat) (ch:Chunk),(Bb k l).get i=some ch→k≤i∧l[i - k]? = some ch
 | [],_,_,_,h=>by cases h
 | c::r,k,i,ch,h=>by
  simp only [Bb,Mem.get,aL] at h
  by_cases hk:k=i
  ·subst hk
   simp only [decide_true,cond_true] at h
   exact ⟨Nat.le_refl _,by simpa using h⟩
  ·simp only [hk,decide_false,cond_false] at h
   obtain ⟨h1,h2⟩:=sN r (k + 1) i ch h
   refine ⟨by omega,?_⟩
   rw [show i - k=(i - (k + 1)) + 1 by omega,List.getElem?_cons_succ]
   exact h2
def H9:List Nat→List Chunk→Mem
 | c::r,ch::s=>(c,ch)::H9 r s
 | _,_=>[]
theorem Kv:∀ (ids:List Nat) (l:List Chunk) (c:Nat) (ch:Chunk),(H9 ids l).get c=some ch→∃ i:Nat,ids[i]? = some c∧l[i]? = some ch
 | [],_,_,_,h=>by cases h
 | _::_,[],_,_,h=>by cases h
 | a::r,x::s,c,ch,h=>by
  simp only [H9,Mem.get,aL] at h
  by_cases hk:a=c
  ·subst hk
   simp only [decide_true,cond_true] at h
   exact ⟨0,rfl,by simpa using h⟩
  ·simp only [hk,decide_false,cond_false] at h
   obtain ⟨i,h1,h2⟩:=Kv r s c ch h
   exact ⟨i + 1,by simpa using h1,by simpa using h2⟩
def Gets (M:Mem):List Nat→List Chunk→Prop
 | [],[]=>True
 | c::r,ch::s=>M.get c=some ch∧Gets M r s
 | _,_=>False
theorem Gets.at {M:Mem}:∀ {ids:List Nat} {l:List Chunk},Gets M ids l→ids.length=l.length∧∀ (i c:Nat) (ch:Chunk),ids[i]? = some c→l[i]? = some ch→M.get c=some ch
 | [],[],_=>⟨rfl,fun i c ch h=>by simp at h⟩
 | [],_::_,h=>h.elim
 | _::_,[],h=>h.elim
 | a::r,x::s,h=>by
  obtain ⟨h1,h2⟩:=h
  obtain ⟨h3,h4⟩:=h2.at
  refine ⟨by simp [h3],fun i c ch e1 e2 => ?_⟩
  match i with
  | 0 =>
   simp only [List.getElem?_cons_zero,Option.some.injEq] at e1 e2
   subst e1 e2;exact h1
  | i + 1=>exact h4 i c ch (by simpa using e1) (by simpa using e2)
def VN (l:List Chunk):Bool:=l.all fun c=>c.closed && !c.fD
def WL (l:List Chunk):Bool:=l.all fun c=>c.closed && c.fD
theorem Gets.app {M:Mem}:∀ {ids rids:List Nat} {l s:List Chunk},Gets M ids l→Gets M rids s→Gets M (ids++rids) (l++s)
 | [],_,[],_,_,h=>h
 | [],_,_::_,_,h,_=>h.elim
 | _::_,_,[],_,h,_=>h.elim
 | _::_,_,_::_,_,h,h'=>⟨h.1,Gets.app h.2 h'⟩
theorem wR {P:Program} {T:aU} {f:FuncId} {fn:Func} {c:Code} (hT:bf P T) (hf:P.funcs[f]? = some fn) (hb:fn.body=some c)
  (chs chs' es:List Chunk) (Xl:List CV) (X:XV) {M:Mem} {d:Nat} (ids rids:List Nat) {Xs:List CV} {r:Bo} {k1 n0:Nat} {M0:Mem} (hk:chs.length=k1) (hn:chs.length + es.length=n0) (hM:Bb 0 (chs++es)=M0) (hids:ids.Nodup) (hd:d ∉ ids++rids)
  (hXl:Xl.all (CV.ok fun i=>Nat.blt i (chs.length + es.length))=true) (hX:X.ok (fun i=>Nat.blt i (chs.length + es.length))=true) (hc:VN chs=true) (hc':VN chs'=true) (he:WL es=true)
  (hg:Gets M ids chs) (hg':Gets M rids es)
  (h:∀ C:Ctx,C.n0=n0→av P C c ⟨fV fn.ntmps (Xl.map .cv),M0,n0⟩ (Ends C T fn.results.toList k1 n0 ⟨X,Bb 0 chs',none⟩))
  (hXs:Xs=Xl.map (CV.ren fun i=>((ids++rids)[i]?).getD d)) (hrv:r.v=X.ren fun i=>((ids++rids)[i]?).getD d) (hru:r.upd=H9 ids chs') (hwr:r.wr=ids):aC P f Xs M d r (ids++rids):=by
 subst hk hn hM
 obtain ⟨l1,g1⟩:=hg.at
 obtain ⟨l2,g2⟩:=hg'.at
 obtain ⟨l3,g3⟩:=(hg.app hg').at
 refine qU (ids:=ids) (rids:=rids) (k1:=chs.length) (n0:=chs.length + es.length) (Xl:=Xl) (M0:=Bb 0 (chs++es)) (out:=⟨X,Bb 0 chs',none⟩) hT hf hb hids l1 (by rw [l2]) hd hXl (fun i ch hi => ?_) (fun i ch hi => ?_) (fun i ch hi=>by cases hi) (XV.aG (fun i hi=>by rw [hi,Bool.true_or]) hX) h hXs hrv hwr (fun q ch hq => ?_)
 ·obtain ⟨-,h2⟩:=sN _ _ _ _ hi
  rw [Nat.sub_zero] at h2
  have hlt:i<chs.length + es.length:=by
   have:=(List.getElem?_eq_some_iff.1 h2).1
   rwa [List.length_append] at this
  have hcl:ch.closed=true:=by
   rcases Nat.lt_or_ge i chs.length with h3 |h3
   ·rw [List.getElem?_append_left h3] at h2
    exact (Bool.and_eq_true _ _▸List.all_eq_true.1 hc ch (List.mem_of_getElem? h2)).1
   ·rw [List.getElem?_append_right h3] at h2
    exact (Bool.and_eq_true _ _▸List.all_eq_true.1 he ch (List.mem_of_getElem? h2)).1
  refine ⟨hlt,Chunk.aG (fun _ h=>by cases h) hcl,fun h3 => ?_,fun ci hci => ?_⟩
  ·rw [List.getElem?_append_right h3] at h2
   exact (Bool.and_eq_true _ _▸List.all_eq_true.1 he ch (List.mem_of_getElem? h2)).2
  ·rw [Chunk.aM hcl]
   exact g3 i ci ch hci h2
 ·obtain ⟨-,h2⟩:=sN _ _ _ _ hi
  rw [Nat.sub_zero] at h2
  have h3:=List.all_eq_true.1 hc' ch (List.mem_of_getElem? h2)
  simp only [Bool.and_eq_true,Bool.not_eq_true'] at h3
  exact ⟨Chunk.aG (fun _ h=>by cases h) h3.1,h3.2⟩
 ·rw [hru] at hq
  obtain ⟨i,h1,h2⟩:=Kv _ _ _ _ hq
  have h3:=List.all_eq_true.1 hc' ch (List.mem_of_getElem? h2)
  simp only [Bool.and_eq_true,Bool.not_eq_true'] at h3
  refine ⟨ch,(Chunk.aM h3.1).symm,.inl ⟨i,h1,?_⟩⟩
  have:∀ (l:List Chunk) (k j:Nat) (c:Chunk),l[j]? = some c→(Bb k l).get (k + j)=some c:=by
   intro l
   induction l with
   | nil=>intro k j c h;simp at h
   | cons a s ih =>
    intro k j c h
    match j with
    | 0=>simp only [Bb,Mem.get,aL,Nat.add_zero,decide_true,cond_true];simpa using h
    | j + 1 =>
     simp only [Bb,Mem.get,aL]
     rw [show decide (k=k + (j + 1))=false from decide_eq_false (by omega),cond_false,show k + (j + 1)=(k + 1) + j by omega]
     exact ih (k + 1) j c (by simpa using h)
  have h4:=this chs' 0 i ch h2
  rwa [Nat.zero_add] at h4
theorem Ends.owned {C:Ctx} {T:aU} {rs:List ResultVar} {k1 n0:Nat} {X v:XV} {S S':St} {e:Exit} {l:List Chunk} (he:e = .normal∨e = .ret) (hE:aN C S S') (hr:tK T S' rs=some v) (hv:v=X) (hg:Gets S'.mem (List.range k1) l) :
  Ends C T rs k1 n0 ⟨X,Bb 0 l,none⟩ e S:=by
 obtain ⟨hl,h⟩:=hg.at
 refine ⟨he,_,hE,by rw [hr,hv],fun i ch hi => ?_,fun i ch h=>by cases h⟩
 obtain ⟨-,h2⟩:=sN _ _ _ _ hi
 rw [Nat.sub_zero] at h2
 have hlt:=(List.getElem?_eq_some_iff.1 h2).1
 rw [List.length_range] at hl
 have hik:i<k1:=by omega
 exact ⟨hik,h i i ch (by rw [List.getElem?_range hik]) h2⟩
end Go.Sx
