/- Parts SxZb. -/
import Derived.Test.YtnpkdoggfnlapaaGreatDoorG08
import Derived.Laws.CopyRow
set_option linter.unusedSimpArgs false
set_option linter.unusedVariables false
namespace Go.Sx
open Go.RowKit
section
variable {M:Mem} {rd:List Nat}
theorem ah {c:CV} (hc:c.ok (fun _=>false)=true):bC M rd c (.plain c):=fun _ _ _ _ _ h _=>⟨[default],rfl,fun _ _ _=>⟨CV.aW (p:=fun _=>false) (fun _ h=>by cases h) hc h,fun _ _ h=>by cases h⟩⟩
theorem aY (sz:Nat) (f:Nat→List Value):bC M rd (.one (.raw (.slice none 0 0))) (.row sz 0 f):=by
 refine bC.row ?_
 intro β ow w v _ h _
 simp only [CV.rel,SV.rel] at h
 subst h
 exact ⟨⟨0,0,0,true,fun _=>0⟩,by simp [SV.rel],by simp [ql]⟩
def Loc.part (l:Loc) (off cap:Nat):Loc:=⟨l.blk,l.base + off,cap,l.nil,l.sub⟩
theorem Loc.lI (l:Loc) (off cap n:Nat):(l.part off cap).addr n=l.addr (off + n):=by simp [Loc.part,Loc.addr,Nat.add_assoc]
theorem Ko {β:Nat→Loc} {c sz lo k:Nat} {v:Value} (h:(SV.slc c sz lo k).rel β v):(SV.slc 0 sz 0 k).rel (fun _=>(β c).part (lo * sz) ((β c).cap - lo)) v:=by
 simp only [SV.rel] at h ⊢
 by_cases hn:(β c).nil=true
 ·have hn':((β c).part (lo * sz) ((β c).cap - lo)).nil=true:=hn
  rw [if_pos hn] at h
  rw [if_pos hn']
  exact ⟨h.1,trivial,h.2.2⟩
 ·have hn':¬ ((β c).part (lo * sz) ((β c).cap - lo)).nil=true:=hn
  rw [if_neg hn] at h
  rw [if_neg hn']
  obtain ⟨a,h1,h2,h3⟩:=h
  refine ⟨a,by rw [h1];simp [Loc.part],by simp [Loc.part];omega,fun hl => ?_⟩
  rw [Loc.lI,h3 (by simp [Loc.part] at hl;omega)]
  simp
theorem jq {c sz n lo k:Nat} {f g:Nat→List Value} (hm:M.get c=some (.ro sz n f)) (hrd:gI c rd=true) (hk:lo + k≤n) (hg:∀ i,i<k→g i=f (lo + i)):bC M rd (.one (.slc c sz lo k)) (.row sz k g):=by
 refine bC.row ?_
 intro β ow w v _ h hr
 have hh:=hr c ((bH c rd).1 hrd) _ hm
 refine ⟨_,Ko h,?_⟩
 simp only [Holds] at hh
 simp only [CV.rel,SV.rel] at h
 unfold ql
 by_cases hn:(β c).nil=true
 ·rw [if_pos hn] at h
  rw [if_pos (show ((β c).part (lo * sz) ((β c).cap - lo)).nil=true from hn)]
  exact h.2.2
 ·rw [if_neg hn] at hh
  rw [if_neg (show ¬ ((β c).part (lo * sz) ((β c).cap - lo)).nil=true from hn)]
  refine ⟨⟨hh.2.1,.inl hh.1⟩,fun i hi => ?_⟩
  obtain ⟨e1,e2⟩:=hh.2.2 (lo + i) (by omega)
  rw [hg i hi]
  refine ⟨e1,fun j u hu => ?_⟩
  rw [Loc.lI,← e2 j u hu]
  congr 2
  rw [Nat.add_mul];omega
theorem jN {c e sz n lo k:Nat} {f g:Nat→List Value} (hm:M.get c=some (.vec e sz n f)) (hrd:gI c rd=true) (hk:lo + k≤n) (hg:∀ i,i<k→g i=f (lo + i)):bC M rd (.one (.slc c sz lo k)) (.row sz k g):=by
 refine bC.row ?_
 intro β ow w v _ h hr
 have hh:=hr c ((bH c rd).1 hrd) _ hm
 refine ⟨_,Ko h,?_⟩
 simp only [Holds] at hh
 simp only [CV.rel,SV.rel] at h
 unfold ql
 by_cases hn:(β c).nil=true
 ·rw [if_pos hn] at h
  rw [if_pos (show ((β c).part (lo * sz) ((β c).cap - lo)).nil=true from hn)]
  exact h.2.2
 ·rw [if_neg hn] at hh
  rw [if_neg (show ¬ ((β c).part (lo * sz) ((β c).cap - lo)).nil=true from hn)]
  obtain ⟨v1,v2,v3,v4,arr,v5,v6,v7⟩:=hh
  refine ⟨⟨(Array.getElem?_eq_some_iff.1 v5).1,.inr ⟨c,(bH c rd).1 hrd,v2⟩⟩,fun i hi => ?_⟩
  obtain ⟨e1,e2⟩:=v7 (lo + i) (by omega)
  rw [hg i hi]
  refine ⟨e1,fun j u hu => ?_⟩
  rw [Loc.lI]
  simp only [Loc.addr,v1,Nat.zero_add]
  rw [cell_of_row w _ _ arr e _ v5,← e2 j u hu]
  congr 1
  rw [Nat.add_mul];omega
theorem Nj {cs:List SV} {off sz k:Nat} {g:Nat→List Value} (hl:∀ i,i<k→(g i).length=sz) (hf:(cs.drop off).take (k * sz)=(flat g k).map .raw) {β:Nat→Loc} {arr:List Value} (hr:bg β cs arr) :
  ∀ i,i<k→∀ j v,(g i)[j]? = some v→arr[off + (i * sz + j)]? = some v:=by
 intro i hi j v hj
 have hjs:j<sz:=by rw [← hl i hi];exact (List.getElem?_eq_some_iff.1 hj).1
 have h1:(flat g k)[i * sz + j]? = some v:=by rw [flat_get hl hi hjs];exact hj
 have hrow:i * sz + j<k * sz:=by
  have h4:=Nat.mul_le_mul_right sz (show i + 1≤k from hi)
  rw [Nat.add_mul,Nat.one_mul] at h4
  omega
 have h2:((cs.drop off).take (k * sz))[i * sz + j]? = some (.raw v):=by rw [hf];simp [h1]
 rw [List.getElem?_take,if_pos hrow,List.getElem?_drop] at h2
 obtain ⟨u,h3,h4⟩:=hr.get _ _ h2
 simp only [SV.rel] at h4
 rw [h3,h4]
theorem eX {c e off sz k cap:Nat} {cs:List SV} {g:Nat→List Value} (hm:M.get c=some (.cells e cs)) (hrd:gI c rd=true) (hl:∀ i,i<k→(g i).length=sz) (hf:(cs.drop off).take (k * sz)=(fZ g 0 k).map .raw):bC M rd (.one (.sla c off sz k cap)) (.row sz k g):=by
 refine bC.row ?_
 intro β ow w v _ h hr
 obtain ⟨g1,g2,g3,arr,g4,g5⟩:=hr c ((bH c rd).1 hrd) _ hm
 simp only [CV.rel,SV.rel] at h
 obtain ⟨a,h1,h2,h3⟩:=h
 refine ⟨(β c).part off cap,?_,?_⟩
 ·have hn':¬ ((β c).part off cap).nil=true:=by simp [Loc.part,g1]
  simp only [SV.rel]
  rw [if_neg hn']
  refine ⟨a,by rw [h1];simp [Loc.part],by simpa [Loc.part] using h2,fun hl => ?_⟩
  rw [Loc.lI,h3 (by simpa [Loc.part] using hl)]
  simp
 ·unfold ql
  rw [if_neg (by simp [Loc.part,g1])]
  refine ⟨⟨(Array.getElem?_eq_some_iff.1 g4).1,.inr ⟨c,(bH c rd).1 hrd,g3⟩⟩,fun i hi=>⟨hl i hi,fun j u hu => ?_⟩⟩
  have:=Nj hl (by rw [hf,nk]) g5 i hi j u hu
  rw [Loc.lI]
  simp only [Loc.addr,g2,Nat.zero_add]
  rw [cell_of_row w _ _ arr e _ g4]
  simpa using this
def uh (M:Mem) (rd:List Nat) (sz:Nat):List SV→List (Nat×(Nat→List Value))→Prop
 | [],[]=>True
 | s::r,x::l=>bC M rd (.one s) (.row sz x.1 x.2)∧uh M rd sz r l
 | _,_=>False
theorem uh.get {sz:Nat}:∀ {ss:List SV} {l:List (Nat×(Nat→List Value))},uh M rd sz ss l→ss.length=l.length∧∀ (i:Nat) (x:Nat×(Nat→List Value)),l[i]? = some x→∃ s,ss[i]? = some s∧bC M rd (.one s) (.row sz x.1 x.2)
 | [],[],_=>⟨rfl,fun i x h=>by simp at h⟩
 | s::r,y::l,h=>by
  obtain ⟨h1,h2⟩:=uh.get h.2
  refine ⟨by simp [h1],fun i x hx => ?_⟩
  cases i with
  | zero =>
   simp only [List.getElem?_cons_zero,Option.some.injEq] at hx
   subst hx
   exact ⟨s,rfl,h.1⟩
  | succ i=>exact h2 i x (by simpa using hx)
 | [],_::_,h=>h.elim
 | _::_,[],h=>h.elim
theorem OV {c e sz n:Nat} {cs:List SV} {ln:Nat→Nat} {g:Nat→Nat→List Value} (l:List (Nat×(Nat→List Value))) (hm:M.get c=some (.cells e cs)) (hrd:gI c rd=true) (hn:cs.length=n) (ha:uh M rd sz cs l) (hl:∀ i x,l[i]? = some x→ln i=x.1∧g i=x.2) :
  bC M rd (.one (.slc c 1 0 n)) (.rows sz n ln g):=by
 refine bC.rows ?_
 intro β ow w v hw h hr
 obtain ⟨g1,g2,g3,arr,g4,g5⟩:=hr c ((bH c rd).1 hrd) _ hm
 obtain ⟨hll,hget⟩:=ha.get
 refine ⟨β c,by simpa [CV.rel,SV.rel] using h,fun k=>k<w.heap.size∧Free rd ow k,fun k hk=>hk,?_⟩
 simp only [Bz,g1,Bool.false_eq_true,if_false]
 refine ⟨⟨(Array.getElem?_eq_some_iff.1 g4).1,.inr ⟨c,(bH c rd).1 hrd,g3⟩⟩,fun i hi => ?_⟩
 obtain ⟨x,hx⟩:∃ x,l[i]? = some x:=⟨_,List.getElem?_eq_getElem (by omega)⟩
 obtain ⟨s,hs,hL⟩:=hget i x hx
 obtain ⟨hv,e1,e2⟩:=g5.get i s hs
 obtain ⟨L,r1,r2⟩:=hL.QL hw e2 hr
 obtain ⟨l1,l2⟩:=hl i x hx
 have hcell:w.cell? ((β c).addr i)=some hv:=by
  simp only [Loc.addr,g2,Nat.zero_add]
  rw [cell_of_row w _ _ arr e _ g4]
  simpa using e1
 unfold ql at r2
 simp only [SV.rel] at r1
 rw [l1,l2]
 by_cases hnil:L.nil=true
 ·rw [if_pos hnil] at r1 r2
  obtain ⟨k1,_,k2⟩:=r1
  exact ⟨none,0,by rw [hcell,k1,r2],fun h0=>by omega⟩
 ·rw [if_neg hnil] at r1 r2
  obtain ⟨a,k1,k2,k3⟩:=r1
  refine ⟨some a,L.cap - 0,by rw [hcell,k1],fun h0=>⟨a,rfl,?_,fun k hk=>⟨(r2.2 k hk).1,fun j u hu => ?_⟩⟩⟩
  ·rw [k3 (by omega)];exact r2.1
  ·rw [k3 (by omega),gH]
   have:=(r2.2 k hk).2 j u hu
   simpa using this
theorem bD {c:Nat} {A:iX} (hm:M.get c=some (.ext A)) (hrd:gI c rd=true):Qw M rd A:=by
 intro β ow w _ hr
 obtain ⟨O,h1,h2⟩:=hr c ((bH c rd).1 hrd) _ hm
 exact ⟨β c,O,fun k hk=>⟨(h1 k hk).2,.inl (h1 k hk).1⟩,h2⟩
end
def SV.ns (c:Nat):SV→Bool
 | .slc c' _ _ _ => !Nat.beq c' c
 | .ins c' _ _ _ => !Nat.beq c' c
 | _=>true
def CV.ns (c:Nat):CV→Bool
 | .one s=>s.ns c
 | .agg cs=>cs.all (SV.ns c)
def XV.ns (c:Nat):XV→Bool
 | .cv s=>s.ns c
 | .tup l=>l.all (CV.ns c)
def Chunk.ns (c:Nat):Chunk→Bool
 | .cells _ cs=>cs.all (SV.ns c)
 | _=>true
def ze (c:Nat):List (Option XV)→Bool
 | []=>true
 | none::r=>ze c r
 | some X::r=>X.ns c && ze c r
def St.ns (S:St) (c:Nat):Bool:=ze c S.slots && S.mem.all fun x=>Nat.beq x.1 c || x.2.ns c
section
variable {β:Nat→Loc} {c:Nat} {L:Loc}
theorem SV.qL (h1:L.blk=(β c).blk) (h2:L.base=(β c).base) (h4:L.sub=(β c).sub) {s:SV} (hs:s.ns c=true) {v:Value} (h:s.rel β v):s.rel (aX β c L) v:=by
 cases s with
 | raw x=>exact h
 | ptr c' i sz j =>
  simp only [SV.rel] at h ⊢
  rw [h]
  by_cases hc:c'=c
  ·subst hc;simp [aX,Loc.addr,h1,h2]
  ·simp [aX,hc]
 | slc c' sz lo len =>
  simp only [SV.ns,aL,Bool.not_eq_true',decide_eq_false_iff_not] at hs
  simpa [SV.rel,aX,hs] using h
 | map c' =>
  simp only [SV.rel] at h ⊢
  rw [h]
  by_cases hc:c'=c
  ·subst hc;simp [aX,h1]
  ·simp [aX,hc]
 | inn c' j =>
  simp only [SV.rel] at h ⊢
  rw [h]
  by_cases hc:c'=c
  ·subst hc;simp [aX,h4]
  ·simp [aX,hc]
 | sla c' off sz len cap =>
  obtain ⟨a,k1,k2,k3⟩:=h
  refine ⟨a,k1,k2,fun hp => ?_⟩
  rw [k3 hp]
  by_cases hc:c'=c
  ·subst hc;simp [aX,Loc.addr,h1,h2]
  ·simp [aX,hc]
 | ins c' m j len =>
  simp only [SV.ns,aL,Bool.not_eq_true',decide_eq_false_iff_not] at hs
  simpa [SV.rel,aX,hs] using h
 | fn f caps =>
  simp only [SV.rel] at h ⊢
  rw [h]
  congr 2
  refine List.map_congr_left fun c' _ => ?_
  by_cases hc:c'=c
  ·subst hc;simp [aX,Loc.addr,h1,h2]
  ·simp [aX,hc]
theorem bg.cap (h1:L.blk=(β c).blk) (h2:L.base=(β c).base) (h4:L.sub=(β c).sub):∀ {ss:List SV},ss.all (SV.ns c)=true→∀ {vs:List Value},bg β ss vs→bg (aX β c L) ss vs
 | [],_,_,h=>h
 | s::r,hs,vs,h=>by
  simp only [List.all_cons,Bool.and_eq_true] at hs
  obtain ⟨v,t,rfl,g1,g2⟩:=h
  exact ⟨v,t,rfl,SV.qL h1 h2 h4 hs.1 g1,bg.cap h1 h2 h4 hs.2 g2⟩
theorem CV.qL (h1:L.blk=(β c).blk) (h2:L.base=(β c).base) (h4:L.sub=(β c).sub) {s:CV} (hs:s.ns c=true) {v:Value} (h:s.rel β v):s.rel (aX β c L) v:=by
 cases s with
 | one s=>exact SV.qL h1 h2 h4 hs h
 | agg cs=>obtain ⟨arr,rfl,h⟩:=h;exact ⟨arr,rfl,bg.cap h1 h2 h4 hs h⟩
theorem iB.cap (h1:L.blk=(β c).blk) (h2:L.base=(β c).base) (h4:L.sub=(β c).sub):∀ {ss:List CV},ss.all (CV.ns c)=true→∀ {vs:List Value},iB β ss vs→iB (aX β c L) ss vs
 | [],_,_,h=>h
 | s::r,hs,vs,h=>by
  simp only [List.all_cons,Bool.and_eq_true] at hs
  obtain ⟨v,t,rfl,g1,g2⟩:=h
  exact ⟨v,t,rfl,CV.qL h1 h2 h4 hs.1 g1,iB.cap h1 h2 h4 hs.2 g2⟩
theorem XV.qL (h1:L.blk=(β c).blk) (h2:L.base=(β c).base) (h4:L.sub=(β c).sub) {s:XV} (hs:s.ns c=true) {v:Value} (h:s.rel β v):s.rel (aX β c L) v:=by
 cases s with
 | cv s=>exact CV.qL h1 h2 h4 hs h
 | tup l=>obtain ⟨arr,rfl,h⟩:=h;exact ⟨arr,rfl,iB.cap h1 h2 h4 hs h⟩
theorem tQ:∀ {l:List (Option XV)},ze c l=true→∀ t X,dD l t=some X→X.ns c=true
 | [],_,t,X,h=>by simp [dD] at h
 | none::r,hl,t,X,h=>by
  cases t with
  | zero=>simp [dD] at h
  | succ t=>exact tQ (l:=r) hl t X h
 | some Y::r,hl,t,X,h=>by
  simp only [ze,Bool.and_eq_true] at hl
  cases t with
  | zero=>simp only [dD,Option.some.injEq] at h;subst h;exact hl.1
  | succ t=>exact tQ hl.2 t X h
end
theorem Mem.get_mem:∀ {l:Mem} {c:Nat} {ch:Chunk},l.get c=some ch→(c,ch)∈l:=by
 intro l
 induction l with
 | nil=>intro c ch h;simp [Mem.get] at h
 | cons z r ih =>
  obtain ⟨k,ck⟩:=z
  intro c ch h
  simp only [Mem.get,aL] at h
  by_cases hk:k=c
  ·simp only [hk,decide_true,cond_true,Option.some.injEq] at h;subst hk;subst h;simp
  ·simp only [hk,decide_false,cond_false] at h;exact List.mem_cons_of_mem _ (ih h)
theorem aN.arr {C:Ctx} {S:St} {c e sz n:Nat} {cs:List SV} {f:Nat→List Value} (hc:S.mem.get c=some (.cells e cs)) (hraw:cs.all SV.Dh=true) (hlen:cs.length=n * sz) (hn:n≤maxLen) (hns:S.ns c=true) (h0:C.n0≤c)
  (hf:∀ i,i<n→f i=rD (cs.map AX) sz i):aN C S ⟨S.slots,(c,.vec e sz n f)::S.mem.del c,S.nx⟩:=by
 rintro a w ⟨β,ow,h1,h2,h3,h4,h5⟩
 simp only [St.ns,Bool.and_eq_true,List.all_eq_true] at hns
 obtain ⟨g1,g2,g3,arr,g4,g5⟩:=h1.mem c _ hc
 let L:Loc:=⟨(β c).blk,(β c).base,n,false,(β c).sub⟩
 have hL:aX β c L c=L:=by simp [aX]
 refine ⟨aX β c L,ow,⟨h1.defers,h1.size,fun t X hX=>XV.qL (L:=L) rfl rfl rfl (tQ hns.1 t X hX) (h1.slots t X hX),fun c' ch hc' => ?_,h1.wf⟩,⟨h2.slots,fun c' ch hc' => ?_⟩,⟨h3.os,h3.tape,h3.output,h3.size,h3.keep,fun i hi => ?_⟩,h4,h5⟩
 ·simp only [Mem.get,aL] at hc'
  by_cases hcc:c=c'
  ·subst hcc
   simp only [decide_true,cond_true,Option.some.injEq] at hc'
   subst hc'
   simp only [Holds,hL]
   rw [if_neg (by simp [L])]
   have hr:=nX hraw g5
   have hsz:arr.size=n * sz:=by rw [← hlen,← Array.length_toList,hr,List.length_map]
   refine ⟨g2,g3,Nat.le_refl _,hn,arr,g4,hsz,fun i hi => ?_⟩
   rw [hf i hi,← hr]
   have hrow:i * sz + sz≤n * sz:=by
    have h4:=Nat.mul_le_mul_right sz (show i + 1≤n from hi)
    rw [Nat.add_mul,Nat.one_mul] at h4
    exact h4
   refine ⟨by simp only [rD,List.length_take,List.length_drop,Array.length_toList];omega,fun j v hj => ?_⟩
   simp only [rD,List.getElem?_take] at hj
   split at hj
   ·rw [List.getElem?_drop] at hj
    simpa using hj
   ·cases hj
  ·simp only [hcc,decide_false,cond_false,Mem.eP] at hc'
   have hne:¬ c'=c:=fun e=>hcc e.symm
   rw [if_neg hne] at hc'
   have hb:aX β c L c'=β c':=by simp [aX,hne]
   have hold:=h1.mem c' ch hc'
   cases ch with
   | cells e' cs' =>
    obtain ⟨k1,k2,k3,arr',k4,k5⟩:=hold
    have hm:=hns.2 _ (Mem.get_mem hc')
    simp only [aL,Bool.or_eq_true,decide_eq_true_eq] at hm
    have hm':cs'.all (SV.ns c)=true:=by
     rcases hm with h |h
     ·exact absurd h hne
     ·exact h
    exact ⟨by rw [hb];exact k1,by rw [hb];exact k2,by rw [hb];exact k3,arr',by rw [hb];exact k4,bg.cap (L:=L) rfl rfl rfl hm' k5⟩
   | vec e' sz' n' f'=>simpa only [Holds,hb] using hold
   | ro sz' n' f'=>simpa only [Holds,hb] using hold
   | abs A=>simpa only [Holds,hb] using hold
   | ext A=>simpa only [Holds,hb] using hold
 ·simp only [Mem.get,aL] at hc'
  by_cases hcc:c=c'
  ·subst hcc
   simp only [decide_true,cond_true,Option.some.injEq] at hc'
   subst hc'
   exact ⟨(h2.mem c _ hc).1,rfl⟩
  ·simp only [hcc,decide_false,cond_false,Mem.eP] at hc'
   have hne:¬ c'=c:=fun e=>hcc e.symm
   rw [if_neg hne] at hc'
   exact h2.mem c' ch hc'
 ·have hne:i≠c:=by omega
  simp only [aX,if_neg hne]
  exact h3.beta i hi
theorem Rb {n sz i:Nat} {v:Value} (hi:i<n):rD (List.replicate (n * sz) v) sz i=List.replicate sz v:=by
 have hrow:i * sz + sz≤n * sz:=by
  have h4:=Nat.mul_le_mul_right sz (show i + 1≤n from hi)
  rw [Nat.add_mul,Nat.one_mul] at h4
  exact h4
 simp only [rD,List.drop_replicate,List.take_replicate]
 congr 1
 omega
theorem aN.mW {C:Ctx} {S:St} {c e:Nat} (sz n:Nat) (v:Value) {cs:List SV} {f:Nat→List Value} (hc:S.mem.get c=some (.cells e cs)) (hraw:cs.all SV.Dh=true) (hz:cs.map AX=List.replicate (n * sz) v) (hn:n≤maxLen) (hns:S.ns c=true) (h0:C.n0≤c)
  (hf:∀ i,i<n→f i=List.replicate sz v):aN C S ⟨S.slots,(c,.vec e sz n f)::S.mem.del c,S.nx⟩:=by
 refine aN.arr hc hraw ?_ hn hns h0 (fun i hi=>by rw [hf i hi,hz,Rb hi])
 have:=congrArg List.length hz
 simpa using this
theorem Rc {f:Nat→List Value} {n sz i:Nat} (hl:∀ i,i<n→(f i).length=sz) (hi:i<n):rD (fZ f 0 n) sz i=f i:=by
 rw [nk]
 apply List.ext_getElem?
 intro q
 simp only [rD,List.getElem?_take]
 by_cases hq:q<sz
 ·rw [if_pos hq,List.getElem?_drop,flat_get hl hi hq]
 ·rw [if_neg hq,List.getElem?_eq_none (by rw [hl i hi];omega)]
theorem aN.Gj {C:Ctx} {S:St} {c e:Nat} (sz n:Nat) {cs:List SV} (f:Nat→List Value) (hc:S.mem.get c=some (.cells e cs)) (hraw:cs.all SV.Dh=true) (hz:cs.map AX=fZ f 0 n) (hl:∀ i,i<n→(f i).length=sz) (hn:n≤maxLen) (hns:S.ns c=true) (h0:C.n0≤c) :
  aN C S ⟨S.slots,(c,.vec e sz n f)::S.mem.del c,S.nx⟩:=by
 refine aN.arr hc hraw ?_ hn hns h0 (fun i hi=>by rw [hz,Rc hl hi])
 have:=congrArg List.length hz
 rw [nk,cZ hl,List.length_map] at this
 exact this
section
variable {P:Program} {T:aU} {S:St} {d:Nat} {o:Oper}
theorem sw (hT:bf P T) {t e:TypeId} {x i:Operand} {td te:pO} {m:Nat} {cs:List SV} (f:Nat→List Value) {k:IntKind} {n:Int} {v:CV} (ho:o.op = .index t x i) (ht:T t=some td) (hd:td.desc = .array m e) (he:T e=some te)
  (hx:S.ev x=some (.cv (.agg cs))) (hi:S.ev i=some (XV.int k n)) (hl:∀ i,i<m→(f i).length=te.size) (hcs:cs=(fZ f 0 m).map .raw) (h0:0≤n) (h1:n<(m:Int)) (hv:sI te.agg ((f n.toNat).map .raw)=some v):bT P S d o { v := .cv v } []:=by
 refine dw fun β w a hops => ?_
 obtain ⟨arr,e1,e2⟩:=hops x (by rw [ho];simp [Op.operands]) _ hx
 have e3:=hops i (by rw [ho];simp [Op.operands]) _ hi
 simp only [XV.rel,CV.rel,SV.rel] at e3
 have hu:=iA hT ht hd
 have hsz:=fP (P:=P) hT he w
 obtain ⟨ie,ue,g1,g2,g3,_,g5,_⟩:=iF hT he
 have hagg:(isAgg e).run P w = .ok te.agg w:=by
  unfold isAgg
  rw [Sem.run_bind,run_underlying g2 w,← g5]
  cases ue<;>rfl
 have hn:n.toNat<m:=by omega
 have hflat:=cZ hl
 have harr:arr.toList=flat f m:=by
  rw [hcs,nk] at e2
  have h:=nX (l:=(flat f m).map .raw) (by simp [List.all_map,SV.Dh,Function.comp_def]) e2
  rw [h,List.map_map]
  have:(AX ∘ SV.raw)=id:=by funext v;rfl
  rw [this,List.map_id]
 have hrow:n.toNat * te.size + te.size≤m * te.size:=by
  have h4:=Nat.mul_le_mul_right te.size (show n.toNat + 1≤m from hn)
  rw [Nat.add_mul,Nat.one_mul] at h4
  exact h4
 have hpart:((arr.toList.drop (n.toNat * te.size)).take te.size)=f n.toNat:=by
  apply List.ext_getElem?
  intro q
  rw [harr,List.getElem?_take]
  by_cases hq:q<te.size
  ·rw [if_pos hq,List.getElem?_drop,flat_get hl hn hq]
  ·rw [if_neg hq,List.getElem?_eq_none (by rw [hl _ hn];omega)]
 cases ha:te.agg with
 | true =>
  simp only [ha,sI,Option.some.injEq] at hv
  subst hv
  refine ⟨.agg (arr.extract (n.toNat * te.size) (n.toNat * te.size + te.size)),?_,_,rfl,?_⟩
  ·simp [execOp,ho,e1,e3,Instr.index,asIntOf,run_underlying hu,h0,h1,part,hagg,ha,hsz]
  ·rw [Array.toList_extract]
   have e9:List.extract arr.toList (n.toNat * te.size) (n.toNat * te.size + te.size)=f n.toNat:=by rw [← hpart];simp [List.extract]
   rw [e9]
   exact bg.raw _
 | false =>
  rw [ha] at hv
  cases hfn:f n.toNat with
  | nil=>rw [hfn] at hv;simp [sI] at hv
  | cons s0 r =>
   cases r with
   | cons _ _=>rw [hfn] at hv;simp [sI] at hv
   | nil =>
    rw [hfn] at hv hpart
    simp only [List.map_cons,List.map_nil,sI,Option.some.injEq] at hv
    subst hv
    have hget:arr[n.toNat * te.size]? = some s0:=by
     have:((arr.toList.drop (n.toNat * te.size)).take te.size)[0]? = some s0:=by rw [hpart];rfl
     rw [List.getElem?_take,List.getElem?_drop] at this
     split at this
     ·simpa using this
     ·cases this
    exact ⟨s0,by simp [execOp,ho,e1,e3,Instr.index,asIntOf,run_underlying hu,h0,h1,part,hagg,ha,hsz,hget],rfl⟩
theorem jw {x:Operand} {c e off sz k cap:Nat} {cs:List SV} {g:Nat→List Value} {rd:List Nat} (hx:S.ev x=some (XV.sv (.sla c off sz k cap))) (hm:S.mem.get c=some (.cells e cs)) (hrd:gI c rd=true) (hl:∀ i,i<k→(g i).length=sz) (hf:(cs.drop off).take (k * sz)=(fZ g 0 k).map .raw):Ai S x rd sz k g:=by
 intro β ow w v h1 h2
 have hv:=h1 _ hx
 obtain ⟨g1,g2,g3,arr,g4,g5⟩:=h2 c ((bH c rd).1 hrd) _ hm
 obtain ⟨a,e1,e2,e3⟩:=hv
 refine ⟨⟨some a,_,e1,fun hk=>⟨a,rfl,lD hl fun i hi j v hj => ?_⟩⟩,hl⟩
 have:=Nj hl (by rw [hf,nk]) g5 i hi j v hj
 rw [e3 (by omega),gH]
 simp only [Loc.addr,g2,Nat.zero_add]
 rw [cell_of_row w _ _ arr e _ g4]
 simpa using this
theorem dQ (hT:bf P T) {t:TypeId} {n:Nat} {parts:Array (Nat×Operand)} {e:TypeId} {sz:Nat} {cs:List SV} (ho:o.op = .buildSlice t n parts) (hcs:jc T S t n parts.toList=some (e,sz,cs)) (hb:cs.all (SV.ok fun i => !Nat.beq i d)=true) :
  bT P S d o { v:=XV.sv (.slc d sz 0 n),upd:=[(d,.cells e cs)] } []:=by
 refine rQ (L:=fun w=>⟨w.heap.size,0,n,false,fun _=>0⟩) (fun w=>⟨rfl,rfl,rfl⟩) hb fun β w a hx => ?_
 obtain ⟨arr,g1,g2,g3⟩:=oQ (P:=P) hT hcs (β:=β) (w:=w) (a:=a) (fun y hy X hX=>hx y.2 (by rw [ho];simp only [Op.operands];simp;exact ⟨y.1,by simpa using hy⟩) X hX)
 refine ⟨.slice (some ⟨w.heap.size,0,none⟩) n n,arr,by simp [execOp,ho,g1],g2,?_⟩
 simp [XV.rel,CV.rel,SV.rel,aX,Loc.addr]
theorem Bp (hT:bf P T) {x y:Operand} {t t2 e:TypeId} {td te:pO} {c e' off len cap sz k m:Nat} {cs:List SV} {g:Nat→List Value} (rd:List Nat) (ho:o.op = .call { callee := .builtin .copy,args := #[x,y],argTypes := #[t,t2] }) (ht:T t=some td) (hd:td.desc = .slice e) (he:T e=some te) (hsz:te.size=sz) (hsz0:0<sz)
  (hx:S.ev x=some (XV.sv (.sla c off sz len cap))) (hm:S.mem.get c=some (.cells e' cs)) (hy:Ai S y rd sz k g) (hmk:Nat.min k len=m) (hm0:0<m) (hfit:off + m * sz≤cs.length) (h1:∀ i,i<m→((g i).all fun v=>v.oneCell')=true) (hrd:gI c rd=true) :
  bT P S d o { v:=XV.int .i64 m,upd:=[(c,.cells e' (laid cs off ((fZ g 0 m).map .raw)))],wr:=[c] } rd:=by
 rw [nk]
 intro β ow w a K Q hw hfr hops hr hK
 have e1:=hops x (by rw [ho];simp [Op.operands,Call.operands]) _ hx
 obtain ⟨e2,e3⟩:=hy β ow w _ (hops y (by rw [ho];simp [Op.operands,Call.operands])) hr
 obtain ⟨g1,g2,g3,arr,g4,g5⟩:=hr c ((bH c rd).1 hrd) _ hm
 obtain ⟨ax,b1,b2,b3⟩:=e1
 obtain ⟨xb,xc,b4,b5⟩:=e2
 have hmk1:m≤k:=by rw [← hmk];exact Nat.min_le_left _ _
 have hmk2:m≤len:=by rw [← hmk];exact Nat.min_le_right _ _
 obtain ⟨ay,rfl,b6⟩:=b5 (by omega)
 have hax:ax=⟨(β c).blk,off,none⟩:=by rw [b3 (by omega)];simp [Loc.addr,g2]
 have hlm:∀ i,i<m→(g i).length=sz:=fun i hi=>e3 i (by omega)
 have hfl:=cZ hlm
 have hu:=dh hT ht hd
 have hsize:=fP (P:=P) hT he w
 have hl:=g5.length
 simp only [Array.length_toList] at hl
 have hcell:∀ j v,(flat g m)[j]? = some v→w.cell? (ay.add j)=some v:=by
  intro j v hj
  refine b6 j v ?_
  have hjm:j<m * sz:=by rw [← hfl];exact (List.getElem?_eq_some_iff.1 hj).1
  have e5:(flat g k)[j]? = (flat g m)[j]?:=by
   have q1:j=(j / sz) * sz + j % sz:=by rw [Nat.mul_comm];exact (Nat.div_add_mod j sz).symm
   have q2:j / sz<m:=Nat.div_lt_of_lt_mul (by rw [Nat.mul_comm];exact hjm)
   have q3:j % sz<sz:=Nat.mod_lt _ hsz0
   rw [q1,flat_get e3 (by omega) q3,flat_get hlm q2 q3]
  rw [e5];exact hj
 have hone:∀ v∈flat g m,v.oneCell'=true:=BZ h1
 have hload:=run_loadCells_list (P:=P) w ay (flat g m) hcell
 have hst:=run_storeCells_at P (β c).blk off e' (flat g m) 0 arr w g4 (by omega) hone
 simp only [Nat.add_zero] at hst
 have hrun:(execOp a.eval o).run P w = .ok (.value (.int .i64 m)) (w.setRow (β c).blk (arr.toList.take off++flat g m++arr.toList.drop (off + (flat g m).length)).toArray):=by
  have hz:(sizeOf e).run P w = .ok sz w:=by rw [hsize,hsz]
  rw [hfl] at hload
  simp only [execOp,ho,resolve,invoke,builtin,Sem.run_bind,Sem.run_pure,Result.andThen_ok,List.map_toArray,List.map_cons,List.map_nil,b1,b4,hax]
  simp [Builtin.copy_,run_underlying hu,Builtin.lenOf,hz,hmk,Builtin.firstCells,hload,hst,goInt]
 refine upon_value hrun (hK β ow _ _ (Eff.setRow hw d c g3 _) rfl (fun c' ch hc => ?_))
 simp only [Mem.get,aL] at hc
 by_cases hcc:c=c'
 ·subst hcc
  simp only [decide_true,cond_true,Option.some.injEq] at hc
  subst hc
  refine ⟨g1,g2,g3,_,setRow_heap w _ arr _ e' _ g4,?_⟩
  simp only [laid]
  rw [List.length_map]
  exact ((g5.take off).append (bg.raw _)).append (g5.drop _) |> fun h=>by simpa [List.append_assoc] using h
 ·simp [hcc] at hc
end
theorem aN.D7 {C:Ctx} {S:St} {c e sz n:Nat} {f g:Nat→List Value} (hc:S.mem.get c=some (.vec e sz n f)) (hf:∀ i,i<n→f i=g i):aN C S ⟨S.slots,(c,.vec e sz n g)::S.mem.del c,S.nx⟩:=by
 rintro a w ⟨β,ow,h1,h2,h3,h4,h5⟩
 refine ⟨β,ow,⟨h1.defers,h1.size,h1.slots,fun c' ch hc' => ?_,h1.wf⟩,⟨h2.slots,fun c' ch hc' => ?_⟩,h3,h4,h5⟩
 ·simp only [Mem.get,aL] at hc'
  by_cases hcc:c=c'
  ·subst hcc
   simp only [decide_true,cond_true,Option.some.injEq] at hc'
   subst hc'
   exact Ag.holds (a := .vec e sz n f) (b := .vec e sz n g) ⟨rfl,rfl,Nat.le_refl _,hf⟩ (h1.mem c _ hc)
  ·simp only [hcc,decide_false,cond_false,Mem.eP] at hc'
   have hne:¬ c'=c:=fun e=>hcc e.symm
   rw [if_neg hne] at hc'
   exact h1.mem c' ch hc'
 ·simp only [Mem.get,aL] at hc'
  by_cases hcc:c=c'
  ·subst hcc
   simp only [decide_true,cond_true,Option.some.injEq] at hc'
   subst hc'
   exact ⟨(h2.mem c _ hc).1,rfl⟩
  ·simp only [hcc,decide_false,cond_false,Mem.eP] at hc'
   have hne:¬ c'=c:=fun e=>hcc e.symm
   rw [if_neg hne] at hc'
   exact h2.mem c' ch hc'
def PartsAt (sz n:Nat) (ln:Nat→Nat) (g:Nat→Nat→List Value) (ad:Nat→Option Addr):iX where
 Ψ w _ O:=∀ i,i<n→0<ln i→∃ a,ad i=some a∧O a.block∧∀ k,k<ln i→(g i k).length=sz∧∀ j v,(g i k)[j]? = some v→w.cell? (a.add (k * sz + j))=some v
 loc:=by
  intro w w' L O hk h i hi hl
  obtain ⟨a,h3,h4,h5⟩:=h i hi hl
  refine ⟨a,h3,h4,fun k hkk=>⟨(h5 k hkk).1,fun j v hv => ?_⟩⟩
  have hb:(a.add (k * sz + j)).block=a.block:=by unfold Addr.add;split<;>rfl
  rw [World.cell?_of_block (w:=w) (by rw [hb];exact hk _ h4)]
  exact (h5 k hkk).2 j v hv
theorem av.CP {P:Program} {C:Ctx} {cd:Code} {S:St} {Q:Exit→St→Prop} {c sz n:Nat} {ln:Nat→Nat} {g:Nat→Nat→List Value} (hc:S.mem.get c=some (.ext (Bz sz n ln g)))
  (h:∀ (ad:Nat→Option Addr) (cp:Nat→Nat),av P C cd ⟨S.slots,(c,.ro 1 n fun i=>[.slice (ad i) (ln i) (cp i)])::(S.nx,.ext (PartsAt sz n ln g ad))::S.mem.del c,S.nx + 1⟩ Q):av P C cd S Q:=by
 intro a w hs
 obtain ⟨β,ow,h1,h2,h3,h4,h5⟩:=hs
 obtain ⟨O,k1,k2⟩:=h1.mem c _ hc
 have hcn:c<S.nx:=by simpa using (h2.mem c _ hc).1
 simp only [Bz] at k2
 have hex:∃ (ad:Nat→Option Addr) (cp:Nat→Nat),(if (β c).nil=true then n=0 else O (β c).blk∧∀ i,i<n→w.cell? ((β c).addr i)=some (.slice (ad i) (ln i) (cp i))) ∧
   ∀ i,i<n→0<ln i→∃ a,ad i=some a∧O a.block∧∀ k,k<ln i→(g i k).length=sz∧∀ j v,(g i k)[j]? = some v→w.cell? (a.add (k * sz + j))=some v:=by
  by_cases hn:(β c).nil=true
  ·rw [if_pos hn] at k2
   refine ⟨fun _=>none,fun _=>0,by rw [if_pos hn];exact k2,fun i hi=>by omega⟩
  ·rw [if_neg hn] at k2
   have hch:∀ i,∃ x:Option Addr×Nat,i<n→w.cell? ((β c).addr i)=some (.slice x.1 (ln i) x.2)∧(0<ln i→∃ a,x.1=some a∧O a.block∧∀ k,k<ln i→(g i k).length=sz∧∀ j v,(g i k)[j]? = some v→w.cell? (a.add (k * sz + j))=some v):=by
    intro i
    by_cases hi:i<n
    ·obtain ⟨ad,cp,m1,m2⟩:=k2.2 i hi
     exact ⟨(ad,cp),fun _=>⟨m1,m2⟩⟩
    ·exact ⟨(none,0),fun h=>absurd h hi⟩
   have hch2:=Classical.axiomOfChoice hch
   obtain ⟨F,hF⟩:=hch2
   exact ⟨fun i=>(F i).1,fun i=>(F i).2,by rw [if_neg hn];exact ⟨k2.1,fun i hi=>(hF i hi).1⟩,fun i hi hl=>(hF i hi).2 hl⟩
 obtain ⟨ad,cp,m1,m2⟩:=hex
 have up:∀ i,Nat.blt i S.nx=true→Nat.blt i (S.nx + 1)=true:=fun i hi=>by simp only [Nat.blt_eq] at hi ⊢;omega
 refine h ad cp a w ⟨β,ow,⟨h1.defers,h1.size,h1.slots,fun c' ch hc' => ?_,h1.wf⟩,⟨fun t X hX=>XV.aG up (h2.slots t X hX),fun c' ch hc' => ?_⟩,⟨h3.os,h3.tape,h3.output,h3.size,h3.keep,h3.beta⟩,Nat.le_succ_of_le h4,fun k c' hk=>up _ (h5 k c' hk)⟩
 ·simp only [Mem.get,aL] at hc'
  by_cases hcc:c=c'
  ·subst hcc
   simp only [decide_true,cond_true,Option.some.injEq] at hc'
   subst hc'
   simp only [Holds]
   by_cases hn:(β c).nil=true
   ·rw [if_pos hn] at m1 ⊢;exact m1
   ·rw [if_neg hn] at m1 ⊢
    refine ⟨(k1 _ m1.1).1,(k1 _ m1.1).2,fun i hi=>⟨rfl,fun j v hj => ?_⟩⟩
    cases j with
    | zero =>
     simp only [List.getElem?_cons_zero,Option.some.injEq] at hj
     subst hj
     simpa using m1.2 i hi
    | succ j=>simp at hj
  ·simp only [hcc,decide_false,cond_false] at hc'
   by_cases hcn':S.nx=c'
   ·simp only [hcn',decide_true,cond_true,Option.some.injEq] at hc'
    subst hc'
    exact ⟨O,k1,m2⟩
   ·simp only [hcn',decide_false,cond_false,Mem.eP] at hc'
    have hne:¬ c'=c:=fun e=>hcc e.symm
    rw [if_neg hne] at hc'
    exact h1.mem c' ch hc'
 ·simp only [Mem.get,aL] at hc'
  by_cases hcc:c=c'
  ·subst hcc
   simp only [decide_true,cond_true,Option.some.injEq] at hc'
   subst hc'
   exact ⟨by simp only [Nat.blt_eq];omega,rfl⟩
  ·simp only [hcc,decide_false,cond_false] at hc'
   by_cases hcn':S.nx=c'
   ·simp only [hcn',decide_true,cond_true,Option.some.injEq] at hc'
    subst hc'
    exact ⟨by simp only [Nat.blt_eq];omega,rfl⟩
   ·simp only [hcn',decide_false,cond_false,Mem.eP] at hc'
    have hne:¬ c'=c:=fun e=>hcc e.symm
    rw [if_neg hne] at hc'
    obtain ⟨n1,n2⟩:=h2.mem c' ch hc'
    exact ⟨up _ n1,Chunk.aG up n2⟩
theorem Ju {S:St} {x:Operand} {q sz n i:Nat} {ln:Nat→Nat} {g:Nat→Nat→List Value} {ad:Nat→Option Addr} {cp:Nat} {rd:List Nat} (hx:S.ev x=some (XV.val (.slice (ad i) (ln i) cp))) (hm:S.mem.get q=some (.ext (PartsAt sz n ln g ad))) (hrd:gI q rd=true) (hi:i<n):Ai S x rd sz (ln i) (g i):=by
 intro β ow w v h1 h2
 have hv:=h1 _ hx
 simp only [XV.rel,CV.rel,SV.rel] at hv
 obtain ⟨O,k1,k2⟩:=h2 q ((bH q rd).1 hrd) _ hm
 by_cases h0:0<ln i
 ·obtain ⟨a,m1,m2,m3⟩:=k2 i hi h0
  exact ⟨⟨ad i,cp,hv,fun _=>⟨a,m1,lD (fun k hk=>(m3 k hk).1) fun k hk j v hj=>(m3 k hk).2 j v hj⟩⟩,fun k hk=>(m3 k hk).1⟩
 ·exact ⟨⟨ad i,cp,hv,fun h=>absurd h h0⟩,fun k hk=>absurd hk (by omega)⟩
theorem av.sK {P:Program} {C:Ctx} {cd:Code} {S:St} {Q:Exit→St→Prop} (t:Nat) {c sz n:Nat} (ht:dD S.slots t=some (XV.sv (.slc c sz 0 n)))
  (h0:n=0→av P C cd ⟨om S.slots t (some (XV.val (.slice none 0 0))),S.mem,S.nx⟩ Q) (h1:∀ cap,n≤cap→av P C cd ⟨om S.slots t (some (XV.sv (.sla c 0 sz n cap))),S.mem,S.nx⟩ Q):av P C cd S Q:=by
 intro a w hs
 obtain ⟨β,ow,g1,g2,g3,g4,g5⟩:=hs
 have hv:=g1.slots t _ ht
 have hlt:=kK ht
 simp only [XV.rel,CV.rel,SV.rel] at hv
 have fin:∀ X:XV,X.rel β (a.tmps.getD t undef)→X.ok (fun i=>Nat.blt i S.nx)=true→iZ C ⟨om S.slots t (some X),S.mem,S.nx⟩ a w:=by
  intro X hX hok
  refine ⟨β,ow,⟨g1.defers,by simp [eY,g1.size],fun t' X' h' => ?_,g1.mem,g1.wf⟩,⟨fun t' X' h' => ?_,g2.mem⟩,g3,g4,g5⟩
  ·simp only [dZ] at h'
   by_cases htt:t'=t
   ·subst htt;simp only [if_true,hlt] at h';cases h';exact hX
   ·simp only [htt,if_false] at h';exact g1.slots t' X' h'
  ·simp only [dZ] at h'
   by_cases htt:t'=t
   ·subst htt;simp only [if_true,hlt] at h';cases h';exact hok
   ·simp only [htt,if_false] at h';exact g2.slots t' X' h'
 by_cases hn:(β c).nil=true
 ·rw [if_pos hn] at hv
  exact h0 hv.2.2 a w (fin _ (by simp only [XV.rel,CV.rel,SV.rel];exact hv.1) rfl)
 ·rw [if_neg hn] at hv
  obtain ⟨ad,e1,e2,e3⟩:=hv
  have hok:=g2.slots t _ ht
  refine h1 (β c).cap (by omega) a w (fin _ ?_ hok)
  exact ⟨ad,by rw [e1];rfl,by omega,fun hp=>by rw [e3 hp];simp⟩
theorem sJ {S:St} {x:Operand} {c off sz k cap n lo:Nat} {f:Nat→List Value} {rd:List Nat} (hx:S.ev x=some (XV.sv (.sla c off sz k cap))) (hm:S.mem.get c=some (.ro sz n f)) (hrd:gI c rd=true) (hoff:off=lo * sz) (hn:lo + k≤n):Ai S x rd sz k (fun i=>f (lo + i)):=by
 intro β ow w v h1 h2
 have hv:=h1 _ hx
 have hh:=h2 c ((bH c rd).1 hrd) _ hm
 obtain ⟨a,e1,e2,e3⟩:=hv
 simp only [Holds] at hh
 by_cases hnil:(β c).nil=true
 ·rw [if_pos hnil] at hh
  have:k=0:=by omega
  subst this
  exact ⟨⟨some a,_,e1,fun h=>by omega⟩,fun i hi=>by omega⟩
 rw [if_neg hnil] at hh
 obtain ⟨v1,v2,v7⟩:=hh
 have hl:∀ i,i<k→(f (lo + i)).length=sz:=fun i hi=>(v7 (lo + i) (by omega)).1
 refine ⟨⟨some a,_,e1,fun hk=>⟨a,rfl,lD hl fun i hi j v hj => ?_⟩⟩,hl⟩
 have:=(v7 (lo + i) (by omega)).2 j v hj
 rw [e3 (by omega),gH,← this]
 congr 2
 rw [hoff,Nat.add_mul];omega
def Qv (b sz n:Nat) (f:Nat→List Value):iX where
 Ψ w _ O:=O b∧∀ i,i<n→(f i).length=sz∧∀ j v,(f i)[j]? = some v→w.cell? ⟨b,i * sz + j,none⟩=some v
 loc:=by
  rintro w w' L O hk ⟨h1,h2⟩
  refine ⟨h1,fun i hi=>⟨(h2 i hi).1,fun j v hv => ?_⟩⟩
  rw [World.cell?_of_block (w:=w) (hk _ h1)]
  exact (h2 i hi).2 j v hv
section
variable {P:Program} {T:aU} {S:St} {d:Nat} {o:Oper}
theorem GH (hT:bf P T) {t e:TypeId} {x i:Operand} {td te:pO} {m b:Nat} {k:IntKind} {n:Int} (ho:o.op = .indexAddr t x i) (ht:T t=some td) (hd:td.desc = .array m e) (he:T e=some te)
  (hx:S.ev x=some (XV.val (.pointer (some ⟨b,0,none⟩)))) (hi:S.ev i=some (XV.int k n)) (h0:0≤n) (h1:n<(m:Int)):bT P S d o { v:=XV.val (.pointer (some ⟨b,n.toNat * te.size,none⟩)) } []:=by
 refine dw fun β w a hops => ?_
 have e1:=hops x (by rw [ho];simp [Op.operands]) _ hx
 have e2:=hops i (by rw [ho];simp [Op.operands]) _ hi
 simp only [XV.rel,CV.rel,SV.rel] at e1 e2
 have hu:=iA hT ht hd
 have hsz:=fP (P:=P) hT he w
 refine ⟨_,?_,rfl⟩
 have hadd:(⟨b,0,none⟩:Addr).add (n.toNat * te.size)=⟨b,n.toNat * te.size,none⟩:=by unfold Addr.add;split<;>simp_all
 simp only [execOp,ho,e2,e1,Instr.indexAt,asIntOf,run_underlying hu,Sem.run_bind,Sem.run_pure,Result.andThen_ok]
 simp [h0,h1,hsz,Instr.sureAddr,hadd]
theorem Ja (hT:bf P T) {t:TypeId} {x:Operand} {td:pO} {q b sz n i:Nat} {f:Nat→List Value} {v:CV} (ho:o.op = .load t x) (ht:T t=some td) (hx:S.ev x=some (XV.val (.pointer (some ⟨b,i * sz,none⟩)))) (hm:S.mem.get q=some (.ext (Qv b sz n f))) (hsz:td.size=sz) (hi:i<n)
  (hv:sI td.agg ((f i).map .raw)=some v):bT P S d o { v := .cv v } [q]:=by
 refine uI fun β ow w a hw hops hr => ?_
 have e1:=hops x (by rw [ho];simp [Op.operands]) _ hx
 simp only [XV.rel,CV.rel,SV.rel] at e1
 obtain ⟨O,k1,k2,k3⟩:=hr q (by simp) _ hm
 obtain ⟨m1,m2⟩:=k3 i hi
 obtain ⟨y,h2,h3⟩:=wh (w:=w) (β:=β) (hT t td ht) (bg.raw (f i)) (by rw [List.length_map,m1,hsz]) (a:=⟨b,i * sz,none⟩) (fun j u hu=>by
  have hadd:(⟨b,i * sz,none⟩:Addr).add j=⟨b,i * sz + j,none⟩:=by unfold Addr.add;split<;>simp_all
  rw [hadd];exact m2 j u hu) hv
 exact ⟨y,by simp [execOp,ho,e1,Instr.loadAt,Instr.sureAddr,h2],h3⟩
end
end Go.Sx
