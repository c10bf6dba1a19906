/- Parts SxZa. -/
import Derived.Test.YtnpkdoggfnlapaaGreatDoorG07
set_option linter.unusedSimpArgs false
set_option linter.unusedVariables false
namespace Go.Sx
open Go.RowKit
theorem aC.lend {P:Program} {f:FuncId} {Xl Xs:List CV} {M0 M:Mem} {d0 d:Nat} {X:XV} {rd0 rd:List Nat} (h:aC P f Xl M0 d0 { v:=X } rd0) (hX:X.ok (fun _=>false)=true)
  (hl:∀ β ow (w:World) vs,WF ow w→iB β Xs vs→(∀ c∈rd,∀ ch,M.get c=some ch→Holds β ow w c ch)→∃ β0,iB β0 Xl vs∧∀ c∈rd0,∀ ch,M0.get c=some ch→Holds β0 (fun _=>none) w c ch):aC P f Xs M d { v:=X } rd:=by
 intro β ow w vs hw hfr hvs hr
 obtain ⟨β0,h1,h2⟩:=hl β ow w vs hw hvs hr
 refine (h β0 (fun _=>none) w vs (fun k hk=>absurd rfl hk) (fun k e=>by cases e) h1 h2).mono ?_
 rintro e w' ⟨v,β',ow',rfl,E,h3,_⟩
 have key:∀ k,k<w.heap.size→w'.heap[k]? = w.heap[k]?:=fun k hk=>(E.keep k hk (fun c hc=>by cases hc)).1
 refine ⟨v,β,ow,rfl,⟨fun _ _=>rfl,E.os,E.tape,E.output,E.size,fun k hk _=>⟨key k hk,rfl⟩,fun k hk c hc => ?_,fun k hk=>Nat.lt_of_lt_of_le (hw k hk) E.size⟩,XV.aW (p:=fun _=>false) (fun _ h=>by cases h) hX h3,fun c ch hc=>by simp [Mem.get] at hc⟩
 rcases hk with hk |⟨_,h0,_⟩
 ·have:=hw k (by simp [hc]);omega
 ·cases h0
theorem aC.RN {P:Program} {f:FuncId} {Xl Xs:List CV} {M0 M:Mem} {d0 d:Nat} {X:XV} {ch':Chunk} {rd0 rd:List Nat} (i:Nat) (hXi:X.ok (fun j=>Nat.beq i j)=true) (hcl:ch'.closed=true) (hro:ch'.fD=false)
  (h:aC P f Xl M0 d0 { v:=X.ren fun _=>d0,upd:=[(d0,ch')] } rd0)
  (hl:∀ β ow (w:World) vs,WF ow w→iB β Xs vs→(∀ c∈rd,∀ ch,M.get c=some ch→Holds β ow w c ch)→∃ β0,iB β0 Xl vs∧∀ c∈rd0,∀ ch,M0.get c=some ch→Holds β0 (fun _=>none) w c ch):aC P f Xs M d { v:=X.ren fun _=>d,upd:=[(d,ch')] } rd:=by
 intro β ow w vs hw hfr hvs hr
 obtain ⟨β0,h1,h2⟩:=hl β ow w vs hw hvs hr
 refine (h β0 (fun _=>none) w vs (fun k hk=>absurd rfl hk) (fun k e=>by cases e) h1 h2).mono ?_
 rintro e w' ⟨v,β',ow',rfl,E,h3,h4⟩
 have key:∀ k,k<w.heap.size→w'.heap[k]? = w.heap[k]?∧ow' k=none:=fun k hk=>E.keep k hk (fun c hc=>by cases hc)
 let β2:=aX β d (β' d0)
 let ow2:Nat→Option Nat:=fun k=>if ow' k=some d0 then some d else ow k
 have ho:∀ k,ow2 k=some d↔ow' k=some d0:=fun k=>by
  simp only [ow2]
  by_cases hk:ow' k=some d0
  ·simp [hk]
  ·simp [hk,hfr k]
 refine ⟨v,β2,ow2,rfl,⟨fun c hc=>by simp [β2,aX,hc],E.os,E.tape,E.output,E.size,fun k hk _=>⟨(key k hk).1,by simp [ow2,(key k hk).2]⟩,fun k hk c hc => ?_,fun k hk => ?_⟩,?_,fun c ch hc => ?_⟩
 ·by_cases hd:ow' k=some d0
  ·simp only [ow2,hd,if_true,Option.some.injEq] at hc;exact .inr hc.symm
  ·simp only [ow2,hd,if_false] at hc
   rcases hk with hk |⟨_,h0,_⟩
   ·have:=hw k (by simp [hc]);omega
   ·cases h0
 ·by_cases hd:ow' k=some d0
  ·exact E.wf k (by simp [hd])
  ·simp only [ow2,hd,if_false] at hk
   exact Nat.lt_of_lt_of_le (hw k hk) E.size
 ·have e1:=(XV.jA (β:=β') (ρ:=fun _=>d0) X v).1 h3
  refine (XV.jA (β:=β2) (ρ:=fun _=>d) X v).2 ?_
  refine XV.aW (p:=fun j=>Nat.beq i j) (fun c _ => ?_) hXi e1
  simp [β2,aX]
 ·simp only [Mem.get,aL] at hc
  by_cases hcd:d=c
  ·subst hcd
   simp only [decide_true,cond_true,Option.some.injEq] at hc
   subst hc
   exact Holds.move (β:=β') (ow:=ow') (c:=d0) hcl (by simp [β2,aX]) (fun _ k=>ho k) (fun e=>by rw [hro] at e;cases e) (h4 d0 ch' (by simp [Mem.get]))
  ·simp [hcd] at hc
def Bz (sz n:Nat) (ln:Nat→Nat) (g:Nat→Nat→List Value):iX where
 Ψ w L O:=if L.nil=true then n=0 else O L.blk∧∀ i,i<n→∃ ad cp,w.cell? (L.addr i)=some (.slice ad (ln i) cp)∧(0<ln i→∃ a,ad=some a∧O a.block∧∀ k,k<ln i→(g i k).length=sz∧∀ j v,(g i k)[j]? = some v→w.cell? (a.add (k * sz + j))=some v)
 loc:=by
  intro w w' L O hk h
  by_cases hn:L.nil=true
  ·rw [if_pos hn] at h ⊢;exact h
  ·rw [if_neg hn] at h ⊢
   refine ⟨h.1,fun i hi => ?_⟩
   obtain ⟨ad,cp,h1,h2⟩:=h.2 i hi
   refine ⟨ad,cp,by rw [World.cell?_of_block (w:=w) (hk _ h.1)];exact h1,fun hl => ?_⟩
   obtain ⟨a,h3,h4,h5⟩:=h2 hl
   refine ⟨a,h3,h4,fun k hkk=>⟨(h5 k hkk).1,fun j v hv => ?_⟩⟩
   have hb:(a.add (k * sz + j)).block=a.block:=by unfold Addr.add;split<;>rfl
   rw [World.cell?_of_block (w:=w) (by rw [hb];exact hk _ h4)]
   exact (h5 k hkk).2 j v hv
def ql (w:World) (B:Nat→Prop) (L:Loc) (sz n:Nat) (f:Nat→List Value):Prop :=
 if L.nil=true then n=0 else (L.blk<w.heap.size∧B L.blk)∧∀ i,i<n→(f i).length=sz∧∀ j v,(f i)[j]? = some v→w.cell? (L.addr (i * sz + j))=some v
def Bv (w:World) (B:Nat→Prop) (L:Loc) (A:iX):Prop:=∃ O:Nat→Prop,(∀ k,O k→k<w.heap.size∧B k)∧A.Ψ w L O
def iD (w:World) (B:Nat→Prop) (L:Loc):Chunk→Prop
 | .ro sz n f=>ql w B L sz n f
 | .ext A=>Bv w B L A
 | _=>False
theorem iD.holds {w:World} {B:Nat→Prop} {β:Nat→Loc} {c:Nat} {ch:Chunk} (h:iD w B (β c) ch) {ow:Nat→Option Nat} (hB:∀ k,B k→ow k=none):Holds β ow w c ch:=by
 cases ch with
 | ro sz n f =>
  simp only [iD,ql] at h
  simp only [Holds]
  by_cases hn:(β c).nil=true
  ·rw [if_pos hn] at h ⊢;exact h
  ·rw [if_neg hn] at h ⊢;exact ⟨hB _ h.1.2,h.1.1,h.2⟩
 | ext A =>
  obtain ⟨O,k1,k2⟩:=h
  exact ⟨O,fun k hk=>⟨hB k (k1 k hk).2,(k1 k hk).1⟩,k2⟩
 | _=>cases h
structure AD where
 wid:Nat
 cv:Nat→CV
 mem:Nat→Mem
 low:∀ {i c:Nat} {ch:Chunk},(mem i).get c=some ch→i≤c∧c<i + wid∧ch.fD=true
def AD.plain (c:CV):AD:=⟨1,fun _=>c,fun _=>[],fun h=>by cases h⟩
theorem GY {i c:Nat} {ch0 ch:Chunk} (h0:ch0.fD=true) (h:Mem.get [(i,ch0)] c=some ch):i≤c∧c<i + 1∧ch.fD=true:=by
 simp only [Mem.get,aL] at h
 by_cases hi:i=c
 ·subst hi
  simp only [decide_true,cond_true,Option.some.injEq] at h
  exact ⟨Nat.le_refl _,Nat.lt_succ_self _,by rw [← h];exact h0⟩
 ·simp [hi] at h
def AD.row (sz n:Nat) (f:Nat→List Value):AD:=⟨1,fun i => .one (.slc i sz 0 n),fun i=>[(i,.ro sz n f)],fun h=>GY rfl h⟩
def AD.rows (sz n:Nat) (ln:Nat→Nat) (g:Nat→Nat→List Value):AD:=⟨1,fun i => .one (.slc i 1 0 n),fun i=>[(i,.ext (Bz sz n ln g))],fun h=>GY rfl h⟩
def fu:List AD→Nat
 | []=>0
 | a::r=>a.wid + fu r
def jl:Nat→List AD→List CV
 | _,[]=>[]
 | i,a::r=>a.cv i::jl (i + a.wid) r
def QY:Nat→List iX→Mem
 | _,[]=>[]
 | i,A::r=>(i,.ext A)::QY (i + 1) r
def zD:Nat→List AD→Mem
 | _,[]=>[]
 | i,a::r=>a.mem i++zD (i + a.wid) r
def qx (es:List iX) (i:Nat) (l:List AD):Mem:=zD i l++QY (i + fu l) es
def Free (rd:List Nat) (ow:Nat→Option Nat) (k:Nat):Prop:=ow k=none∨∃ q∈rd,ow k=some q
def bC (M:Mem) (rd:List Nat) (X:CV) (a:AD):Prop:=∀ β ow (w:World) v,WF ow w→X.rel β v→(∀ c∈rd,∀ ch,M.get c=some ch→Holds β ow w c ch) →
 ∃ Ls:List Loc,Ls.length=a.wid∧∀ (i:Nat) (β0:Nat→Loc),(∀ k L,Ls[k]? = some L→β0 (i + k)=L)→(a.cv i).rel β0 v∧∀ c ch,(a.mem i).get c=some ch→iD w (Free rd ow) (β0 c) ch
def Qw (M:Mem) (rd:List Nat) (A:iX):Prop:=∀ β ow (w:World),WF ow w→(∀ c∈rd,∀ ch,M.get c=some ch→Holds β ow w c ch)→∃ L,Bv w (Free rd ow) L A
def lg (M:Mem) (rd:List Nat):List CV→List AD→Prop
 | [],[]=>True
 | X::r,a::l=>bC M rd X a∧lg M rd r l
 | _,_=>False
def lq (M:Mem) (rd:List Nat):List iX→Prop
 | []=>True
 | A::r=>Qw M rd A∧lq M rd r
theorem zP {w:World} {B:Nat→Prop} {β0:Nat→Loc} {L:Loc} {i:Nat} {ch0:Chunk} (hb:β0 i=L) (h:iD w B L ch0):∀ c ch,Mem.get [(i,ch0)] c=some ch→iD w B (β0 c) ch:=by
 intro c ch hc
 simp only [Mem.get,aL] at hc
 by_cases hi:i=c
 ·subst hi
  simp only [decide_true,cond_true,Option.some.injEq] at hc
  rw [hb,← hc];exact h
 ·simp [hi] at hc
theorem bC.row {M:Mem} {rd:List Nat} {X:CV} {sz n:Nat} {f:Nat→List Value} (h:∀ β ow (w:World) v,WF ow w→X.rel β v→(∀ c∈rd,∀ ch,M.get c=some ch→Holds β ow w c ch)→∃ L:Loc,(SV.slc 0 sz 0 n).rel (fun _=>L) v∧ql w (Free rd ow) L sz n f):bC M rd X (.row sz n f):=by
 intro β ow w v hw hv hr
 obtain ⟨L,h1,h2⟩:=h β ow w v hw hv hr
 refine ⟨[L],rfl,fun i β0 hβ => ?_⟩
 have hb:β0 i=L:=by simpa using hβ 0 L rfl
 exact ⟨by simp only [AD.row,CV.rel,SV.rel] at h1 ⊢;rw [hb];exact h1,zP hb h2⟩
theorem bC.rows {M:Mem} {rd:List Nat} {X:CV} {sz n:Nat} {ln:Nat→Nat} {g:Nat→Nat→List Value} (h:∀ β ow (w:World) v,WF ow w→X.rel β v→(∀ c∈rd,∀ ch,M.get c=some ch→Holds β ow w c ch)→∃ L:Loc,(SV.slc 0 1 0 n).rel (fun _=>L) v∧Bv w (Free rd ow) L (Bz sz n ln g)):bC M rd X (.rows sz n ln g):=by
 intro β ow w v hw hv hr
 obtain ⟨L,h1,h2⟩:=h β ow w v hw hv hr
 refine ⟨[L],rfl,fun i β0 hβ => ?_⟩
 have hb:β0 i=L:=by simpa using hβ 0 L rfl
 exact ⟨by simp only [AD.rows,CV.rel,SV.rel] at h1 ⊢;rw [hb];exact h1,zP hb h2⟩
theorem bC.QL {M:Mem} {rd:List Nat} {X:CV} {sz n:Nat} {f:Nat→List Value} (h:bC M rd X (.row sz n f)) {β:Nat→Loc} {ow:Nat→Option Nat} {w:World} {v:Value} (hw:WF ow w) (hv:X.rel β v) (hr:∀ c∈rd,∀ ch,M.get c=some ch→Holds β ow w c ch):∃ L:Loc,(SV.slc 0 sz 0 n).rel (fun _=>L) v∧ql w (Free rd ow) L sz n f:=by
 obtain ⟨Ls,h1,h2⟩:=h β ow w v hw hv hr
 match Ls,h1 with
 | [L],_ =>
  obtain ⟨g1,g2⟩:=h2 0 (fun _=>L) (fun k L' hk=>by
   cases k with
   | zero=>simpa using hk
   | succ k=>simp at hk)
  exact ⟨L,g1,g2 0 (.ro sz n f) rfl⟩
theorem QZ {es:List iX}:∀ {i c:Nat} {ch:Chunk},(QY i es).get c=some ch→i≤c∧c<i + es.length∧∃ A,ch = .ext A∧es[c - i]? = some A:=by
 induction es with
 | nil=>intro i c ch h;simp [QY,Mem.get] at h
 | cons A r ih =>
  intro i c ch h
  simp only [QY,Mem.get,aL] at h
  by_cases hi:i=c
  ·subst hi
   simp only [decide_true,cond_true,Option.some.injEq] at h
   exact ⟨Nat.le_refl _,by simp,A,h.symm,by simp⟩
  ·simp only [hi,decide_false,cond_false] at h
   obtain ⟨h1,h2,B,h3,h4⟩:=ih h
   refine ⟨by omega,by simp only [List.length_cons];omega,B,h3,?_⟩
   have:c - i=(c - (i + 1)) + 1:=by omega
   rw [this,List.getElem?_cons_succ]
   exact h4
theorem Iq:∀ {l:List AD} {i c:Nat} {ch:Chunk},(zD i l).get c=some ch→i≤c∧c<i + fu l∧ch.fD=true
 | [],i,c,ch,h=>by simp [zD,Mem.get] at h
 | a::r,i,c,ch,h=>by
  rw [zD,Mem.get_append] at h
  cases hm:(a.mem i).get c with
  | some ch0 =>
   rw [hm] at h
   simp only [Option.some_or,Option.some.injEq] at h
   subst h
   obtain ⟨h1,h2,h3⟩:=a.low hm
   exact ⟨h1,by simp only [fu];omega,h3⟩
  | none =>
   rw [hm] at h
   obtain ⟨h1,h2,h3⟩:=Iq (l:=r) (by simpa using h)
   exact ⟨by omega,by simp only [fu];omega,h3⟩
theorem pQ {es:List iX} {l:List AD} {i c:Nat} {ch:Chunk} (h:(qx es i l).get c=some ch):i≤c∧c<i + (fu l + es.length)∧ch.fD=true∧((zD i l).get c=some ch∨∃ A,ch = .ext A∧i + fu l≤c∧es[c - (i + fu l)]? = some A):=by
 rw [qx,Mem.get_append] at h
 cases hm:(zD i l).get c with
 | some ch0 =>
  rw [hm] at h
  simp only [Option.some_or,Option.some.injEq] at h
  subst h
  obtain ⟨h1,h2,h3⟩:=Iq hm
  exact ⟨h1,by omega,h3,.inl rfl⟩
 | none =>
  rw [hm] at h
  obtain ⟨h1,h2,A,h3,h4⟩:=QZ (i:=i + fu l) (by simpa using h)
  exact ⟨by omega,by omega,by rw [h3];rfl,.inr ⟨A,h3,h1,h4⟩⟩
theorem lg.args {M:Mem} {rd:List Nat} {β:Nat→Loc} {ow:Nat→Option Nat} {w:World} (hw:WF ow w) (hr:∀ c∈rd,∀ ch,M.get c=some ch→Holds β ow w c ch):∀ {Xs:List CV} {l:List AD} {vs:List Value},lg M rd Xs l→iB β Xs vs →
  ∃ Ls:List Loc,Ls.length=fu l∧∀ (i:Nat) (β0:Nat→Loc),(∀ k L,Ls[k]? = some L→β0 (i + k)=L)→iB β0 (jl i l) vs∧∀ c ch,(zD i l).get c=some ch→iD w (Free rd ow) (β0 c) ch
 | [],[],vs,_,hv=>⟨[],rfl,fun i β0 _=>⟨hv,fun c ch h=>by simp [zD,Mem.get] at h⟩⟩
 | X::r,a::l,vs,hl,hv=>by
  obtain ⟨v,t,rfl,h1,h2⟩:=hv
  obtain ⟨La,a1,a2⟩:=hl.1 β ow w v hw h1 hr
  obtain ⟨Ls,e1,e2⟩:=lg.args hw hr hl.2 h2
  refine ⟨La++Ls,by simp [e1,a1,fu],fun i β0 hβ => ?_⟩
  obtain ⟨f1,f2⟩:=a2 i β0 (fun k L hk=>hβ k L (by rw [List.getElem?_append_left (List.getElem?_eq_some_iff.1 hk).1];exact hk))
  obtain ⟨g1,g2⟩:=e2 (i + a.wid) β0 (fun k L' hk=>by
   have:=hβ (a.wid + k) L' (by rw [List.getElem?_append_right (by omega),a1,Nat.add_sub_cancel_left];exact hk)
   rwa [← Nat.add_assoc] at this)
  refine ⟨⟨v,t,rfl,f1,g1⟩,fun c ch hc => ?_⟩
  rw [zD,Mem.get_append] at hc
  cases hm:(a.mem i).get c with
  | some ch0 =>
   rw [hm] at hc
   simp only [Option.some_or,Option.some.injEq] at hc
   subst hc
   exact f2 c _ hm
  | none =>
   rw [hm] at hc
   exact g2 c ch (by simpa using hc)
 | [],_::_,_,hl,_=>hl.elim
 | _::_,[],_,hl,_=>hl.elim
theorem lq.exts {M:Mem} {rd:List Nat} {β:Nat→Loc} {ow:Nat→Option Nat} {w:World} (hw:WF ow w) (hr:∀ c∈rd,∀ ch,M.get c=some ch→Holds β ow w c ch):∀ {es:List iX},lq M rd es →
  ∃ Ls:List Loc,Ls.length=es.length∧∀ (k:Nat) (A:iX),es[k]? = some A→∃ L,Ls[k]? = some L∧Bv w (Free rd ow) L A
 | [],_=>⟨[],rfl,fun k A h=>by simp at h⟩
 | A::r,h=>by
  obtain ⟨L,hL⟩:=h.1 β ow w hw hr
  obtain ⟨Ls,e1,e2⟩:=lq.exts hw hr h.2
  refine ⟨L::Ls,by simp [e1],fun k B hk => ?_⟩
  cases k with
  | zero =>
   simp only [List.getElem?_cons_zero,Option.some.injEq] at hk
   subst hk
   exact ⟨L,by simp,hL⟩
  | succ k=>simpa using e2 k B (by simpa using hk)
theorem GU {M:Mem} {rd:List Nat} {Xs:List CV} {l:List AD} {es:List iX} (ha:lg M rd Xs l) (he:lq M rd es) (i0:Nat) {β:Nat→Loc} {ow:Nat→Option Nat} {w:World} {vs:List Value} (hw:WF ow w) (hvs:iB β Xs vs) (hr:∀ c∈rd,∀ ch,M.get c=some ch→Holds β ow w c ch)
  (pre:Nat→Loc) (ow0:Nat→Option Nat) (hB:∀ k,Free rd ow k→ow0 k=none) :
  ∃ β0:Nat→Loc,(∀ i,i<i0→β0 i=pre i)∧iB β0 (jl i0 l) vs∧∀ c ch,(qx es i0 l).get c=some ch→Holds β0 ow0 w c ch:=by
 obtain ⟨Ls,e1,e2⟩:=lg.args hw hr ha hvs
 obtain ⟨Es,f1,f2⟩:=lq.exts hw hr he
 let β0:Nat→Loc:=fun i=>if i<i0 then pre i else ((Ls++Es)[i - i0]?).getD default
 obtain ⟨g1,g2⟩:=e2 i0 β0 (fun k L hk=>by
  have:k<Ls.length:=(List.getElem?_eq_some_iff.1 hk).1
  simp only [β0]
  rw [if_neg (by omega),show i0 + k - i0=k by omega,List.getElem?_append_left this,hk]
  rfl)
 refine ⟨β0,fun i hi=>by simp [β0,hi],g1,fun c ch hc => ?_⟩
 obtain ⟨h1,h2,_,h4⟩:=pQ hc
 rcases h4 with h4 |⟨A,rfl,h5,h6⟩
 ·exact (g2 c ch h4).holds hB
 ·obtain ⟨L,k1,k2⟩:=f2 _ A h6
  have hb:β0 c=L:=by
   simp only [β0]
   rw [if_neg (by omega),List.getElem?_append_right (by omega)]
   rw [show c - i0 - Ls.length=c - (i0 + fu l) by omega,k1]
   rfl
  exact iD.holds (ch := .ext A) (by rw [hb];exact k2) hB
theorem Jg {M:Mem} {rd:List Nat} {Xs:List CV} {l:List AD} {es:List iX} (ha:lg M rd Xs l) (he:lq M rd es) (rd0:List Nat):∀ β ow (w:World) vs,WF ow w→iB β Xs vs→(∀ c∈rd,∀ ch,M.get c=some ch→Holds β ow w c ch) →
  ∃ β0,iB β0 (jl 0 l) vs∧∀ c∈rd0,∀ ch,(qx es 0 l).get c=some ch→Holds β0 (fun _=>none) w c ch:=by
 intro β ow w vs hw hvs hr
 obtain ⟨β0,_,h1,h2⟩:=GU ha he 0 hw hvs hr (fun _=>default) (fun _=>none) (fun _ _=>rfl)
 exact ⟨β0,h1,fun c _ ch hc=>h2 c ch hc⟩
inductive AC where
 | raw (v:Value)
 | row (sz n:Nat) (f:Nat→List Value)
def vK:Nat→List AC→List SV
 | _,[]=>[]
 | i,.raw v::r => .raw v::vK i r
 | i,.row sz n _::r => .slc i sz 0 n::vK (i + 1) r
def AZ:Nat→List AC→Mem
 | _,[]=>[]
 | i,.raw _::r=>AZ i r
 | i,.row sz n f::r=>(i,.ro sz n f)::AZ (i + 1) r
def D5:List AC→Nat
 | []=>0
 | .raw _::r=>D5 r
 | .row _ _ _::r=>D5 r + 1
theorem BH:∀ {l:List AC} {i c:Nat} {ch:Chunk},(AZ i l).get c=some ch→i≤c∧c<i + D5 l∧ch.fD=true
 | [],i,c,ch,h=>by simp [AZ,Mem.get] at h
 | .raw v::r,i,c,ch,h=>BH (l:=r) h
 | .row sz n f::r,i,c,ch,h=>by
  simp only [AZ,Mem.get,aL] at h
  by_cases hi:i=c
  ·subst hi
   simp only [decide_true,cond_true,Option.some.injEq] at h
   exact ⟨Nat.le_refl _,by simp only [D5];omega,by rw [← h];rfl⟩
  ·simp only [hi,decide_false,cond_false] at h
   obtain ⟨h1,h2,h3⟩:=BH (l:=r) h
   exact ⟨by omega,by simp only [D5];omega,h3⟩
def AD.box (l:List AC):AD:=⟨D5 l,fun i => .agg (vK i l),fun i=>AZ i l,fun h=>BH h⟩
def fJ (M:Mem) (rd:List Nat):List SV→List AC→Prop
 | [],[]=>True
 | s::r,.raw v::l=>s = .raw v∧fJ M rd r l
 | s::r,.row sz n f::l=>bC M rd (.one s) (.row sz n f)∧fJ M rd r l
 | _,_=>False
theorem fJ.cells {M:Mem} {rd:List Nat} {β:Nat→Loc} {ow:Nat→Option Nat} {w:World} (hw:WF ow w) (hr:∀ c∈rd,∀ ch,M.get c=some ch→Holds β ow w c ch):∀ {cs:List SV} {l:List AC} {vs:List Value},fJ M rd cs l→bg β cs vs →
  ∃ Ls:List Loc,Ls.length=D5 l∧∀ (i:Nat) (β0:Nat→Loc),(∀ k L,Ls[k]? = some L→β0 (i + k)=L)→bg β0 (vK i l) vs∧∀ c ch,(AZ i l).get c=some ch→iD w (Free rd ow) (β0 c) ch
 | [],[],vs,_,hv=>⟨[],rfl,fun i β0 _=>⟨hv,fun c ch h=>by simp [AZ,Mem.get] at h⟩⟩
 | s::r,.raw x::l,vs,hl,hv=>by
  obtain ⟨v,t,rfl,h1,h2⟩:=hv
  obtain ⟨rfl,hl⟩:=hl
  obtain ⟨Ls,e1,e2⟩:=fJ.cells hw hr hl h2
  exact ⟨Ls,e1,fun i β0 hβ=>⟨⟨v,t,rfl,h1,(e2 i β0 hβ).1⟩,(e2 i β0 hβ).2⟩⟩
 | s::r,.row sz n f::l,vs,hl,hv=>by
  obtain ⟨v,t,rfl,h1,h2⟩:=hv
  obtain ⟨L,a1,a2⟩:=hl.1.QL hw h1 hr
  obtain ⟨Ls,e1,e2⟩:=fJ.cells hw hr hl.2 h2
  refine ⟨L::Ls,by simp [e1,D5],fun i β0 hβ => ?_⟩
  have hb:β0 i=L:=by simpa using hβ 0 L rfl
  obtain ⟨g1,g2⟩:=e2 (i + 1) β0 (fun k L' hk=>by
   have:=hβ (k + 1) L' (by simpa using hk)
   rwa [Nat.add_right_comm,Nat.add_assoc])
  refine ⟨⟨v,t,rfl,by simp only [SV.rel] at a1 ⊢;rw [hb];exact a1,g1⟩,fun c ch hc => ?_⟩
  simp only [AZ,Mem.get,aL] at hc
  by_cases hi:i=c
  ·subst hi
   simp only [decide_true,cond_true,Option.some.injEq] at hc
   rw [hb,← hc];exact a2
  ·simp only [hi,decide_false,cond_false] at hc
   exact g2 c ch hc
theorem sF {M:Mem} {rd:List Nat} {cs:List SV} {l:List AC} (h:fJ M rd cs l):bC M rd (.agg cs) (.box l):=by
 intro β ow w v hw hv hr
 obtain ⟨arr,rfl,hv⟩:=hv
 obtain ⟨Ls,h1,h2⟩:=h.cells hw hr hv
 exact ⟨Ls,h1,fun i β0 hβ=>⟨⟨arr,rfl,(h2 i β0 hβ).1⟩,(h2 i β0 hβ).2⟩⟩
theorem fJ.PE {M:Mem} {rd:List Nat} {cs:List SV} {l:List AC} (h:fJ M rd cs l):∀ vs:List Value,fJ M rd (vs.map .raw++cs) (vs.map .raw++l)
 | []=>h
 | _::vs=>⟨rfl,fJ.PE h vs⟩
def Reads (P:Program) (f:FuncId) (l:List AD) (es:List iX) (X:XV):Prop:=∃ d,aC P f (jl 0 l) (qx es 0 l) d { v:=X } (List.range (fu l + es.length))∧X.ok (fun _=>false)=true
def Makes (P:Program) (f:FuncId) (l:List AD) (es:List iX) (X:XV) (ch:Chunk):Prop:=∃ d,aC P f (jl 0 l) (qx es 0 l) d { v:=X.ren fun _=>d,upd:=[(d,ch)] } (List.range (fu l + es.length))∧X.ok (fun j=>Nat.beq 0 j)=true∧ch.closed=true∧ch.fD=false
theorem Reads.at {P:Program} {f:FuncId} {l:List AD} {es:List iX} {X:XV} (h:Reads P f l es X) {Xs:List CV} {M:Mem} {d:Nat} (rd:List Nat) (ha:lg M rd Xs l) (he:lq M rd es):aC P f Xs M d { v:=X } rd:=by
 obtain ⟨d0,h1,h2⟩:=h
 exact h1.lend h2 (Jg ha he _)
theorem Makes.at {P:Program} {f:FuncId} {l:List AD} {es:List iX} {X:XV} {ch:Chunk} (h:Makes P f l es X ch) {Xs:List CV} {M:Mem} {d:Nat} (rd:List Nat) (ha:lg M rd Xs l) (he:lq M rd es):aC P f Xs M d { v:=X.ren fun _=>d,upd:=[(d,ch)] } rd:=by
 obtain ⟨d0,h1,h2,h3,h4⟩:=h
 exact aC.RN 0 h2 h3 h4 h1 (Jg ha he _)
theorem Reads.of {P:Program} {T:aU} {f:FuncId} {fn:Func} {c:Code} (hT:bf P T) (hf:P.funcs[f]? = some fn) (hb:fn.body=some c) (l:List AD) (es:List iX) (X:XV)
  (hXl:(jl 0 l).all (CV.ok fun i=>Nat.blt i (fu l + es.length))=true) (hX:X.ok (fun _=>false)=true)
  (h:∀ C:Ctx,C.n0=fu l + es.length→av P C c ⟨fV fn.ntmps ((jl 0 l).map .cv),qx es 0 l,fu l + es.length⟩ (Ends C T fn.results.toList 0 (fu l + es.length) ⟨X,[],none⟩)):Reads P f l es X :=
 ⟨fu l + es.length,MR hT hf hb (jl 0 l) X (qx es 0 l) (fu l + es.length) hXl hX (fun i ch hi=>by obtain ⟨_,h2,h3,_⟩:=pQ hi;exact ⟨by omega,h3⟩) h (fun _ _ h=>h) (Nat.le_refl _),hX⟩
theorem Makes.of {P:Program} {T:aU} {f:FuncId} {fn:Func} {c:Code} (hT:bf P T) (hf:P.funcs[f]? = some fn) (hb:fn.body=some c) (l:List AD) (es:List iX) (X:XV) (ch:Chunk) (hcl:ch.closed=true) (hro:ch.fD=false)
  (hXl:(jl 0 l).all (CV.ok fun i=>Nat.blt i (fu l + es.length))=true) (hX:X.ok (fun j=>Nat.beq 0 j)=true) (i:Nat)
  (h:∀ C:Ctx,C.n0=fu l + es.length→av P C c ⟨fV fn.ntmps ((jl 0 l).map .cv),qx es 0 l,fu l + es.length⟩ (Ends C T fn.results.toList 0 (fu l + es.length) ⟨X.ren fun _=>i,[],some (i,ch)⟩)):Makes P f l es X ch:=by
 have hXi:(X.ren fun _=>i).ok (fun j=>Nat.beq i j)=true:=by
  have hs:∀ s:SV,s.ok (fun j=>Nat.beq 0 j)=true→(s.ren fun _=>i).ok (fun j=>Nat.beq i j)=true:=by intro s _;cases s<;>simp [SV.ren,SV.ok,List.all_map]
  have hc:∀ s:CV,s.ok (fun j=>Nat.beq 0 j)=true→(s.ren fun _=>i).ok (fun j=>Nat.beq i j)=true:=by
   intro s hk
   cases s with
   | one s=>exact hs s hk
   | agg cs =>
    simp only [CV.ren,CV.ok,List.all_map,List.all_eq_true] at hk ⊢
    exact fun s hm=>hs s (hk s hm)
  cases X with
  | cv s=>exact hc s hX
  | tup cs =>
   simp only [XV.ren,XV.ok,List.all_map,List.all_eq_true] at hX ⊢
   exact fun s hm=>hc s (hX s hm)
 have hren:∀ d,(X.ren fun _=>i).ren (fun _=>d)=X.ren fun _=>d:=by
  intro d
  have hs:∀ s:SV,(s.ren fun _=>i).ren (fun _=>d)=s.ren fun _=>d:=by
   intro s
   cases s with
   | fn f caps=>simp only [SV.ren,List.map_map];rfl
   | _=>rfl
  have hc:∀ s:CV,(s.ren fun _=>i).ren (fun _=>d)=s.ren fun _=>d:=by
   intro s
   cases s with
   | one s=>simp only [CV.ren,hs]
   | agg cs=>simp only [CV.ren,List.map_map];congr 1;apply List.map_congr_left;intro s _;exact hs s
  cases X with
  | cv s=>simp only [XV.ren,hc]
  | tup cs=>simp only [XV.ren,List.map_map];congr 1;apply List.map_congr_left;intro s _;exact hc s
 have:=Bl hT hf hb hcl hro (jl 0 l) (qx es 0 l) (fu l + es.length) hXl (fun i ch hi=>by obtain ⟨_,h2,h3,_⟩:=pQ hi;exact ⟨by omega,h3⟩) (M:=qx es 0 l) (d:=fu l + es.length) (fun _ _ h=>h) (Nat.le_refl _) i (X.ren fun _=>i) hXi h
 rw [hren] at this
 exact ⟨_,this,hX,hcl,hro⟩
def fH (P:Program) (f:FuncId) (ch ch':Chunk) (l:List AD) (es:List iX) (X:XV):Prop :=
 ∃ d,aC P f (.one (.ptr 0 0 0 0)::jl 1 l) ((0,ch)::qx es 1 l) d { v:=X,upd:=[(0,ch')],wr:=[0] } (List.range (1 + (fu l + es.length)))∧1 + (fu l + es.length)≤d∧X.ok (fun _=>false)=true∧(ch.closed && ch'.closed && !ch.fD && !ch'.fD)=true
theorem fH.at {P:Program} {f:FuncId} {ch ch':Chunk} {l:List AD} {es:List iX} {X:XV} (h:fH P f ch ch' l es X) {Xs:List CV} {M:Mem} {c d:Nat} (rd:List Nat) (hc:M.get c=some ch) (hcd:Nat.beq c d=false) (hrd:gI c rd=false) (ha:lg M rd Xs l) (he:lq M rd es) :
  aC P f (.one (.ptr c 0 0 0)::Xs) M d { v:=X,upd:=[(c,ch')],wr:=[c] } (c::rd):=by
 obtain ⟨d0,h1,hd0,h2,h3⟩:=h
 simp only [Bool.and_eq_true,Bool.not_eq_true'] at h3
 obtain ⟨⟨⟨k1,k2⟩,k3⟩,k4⟩:=h3
 rw [aL,decide_eq_false_iff_not] at hcd
 have hcr:c ∉ rd:=fun hm=>by rw [(bH c rd).2 hm] at hrd;cases hrd
 intro β ow w vs hw hfr hvs hr
 obtain ⟨v0,t,rfl,hv0,ht⟩:=hvs
 let ow0:Nat→Option Nat:=fun k=>if ow k=some c then some 0 else none
 have hB:∀ k,Free rd ow k→ow0 k=none:=by
  intro k hk
  simp only [ow0]
  rcases hk with hk |⟨q,hq,hk⟩
  ·simp [hk]
  ·have:q≠c:=fun e=>hcr (e▸hq)
   simp [hk,this]
 obtain ⟨β0,e0,e1,e2⟩:=GU ha he 1 hw ht (fun q hq ch hch=>hr q (by simp [hq]) ch hch) (fun _=>β c) ow0 hB
 have hb0:β0 0=β c:=e0 0 (by omega)
 have howc:∀ k,ow0 k=some 0↔ow k=some c:=fun k=>by simp only [ow0];by_cases h:ow k=some c<;>simp [h]
 have hin:Holds β0 ow0 w 0 ch:=Holds.move (β:=β) (ow:=ow) (c:=c) k1 hb0 (fun _ k=>howc k) (fun e=>by rw [k3] at e;cases e) (hr c (by simp) ch hc)
 refine (h1 β0 ow0 w (v0::t) (fun k hk => ?_) (fun k hk => ?_) ⟨v0,t,rfl,?_,e1⟩ (fun q _ ch0 hq => ?_)).mono ?_
 ·simp only [ow0] at hk
  by_cases h:ow k=some c
  ·exact hw k (by simp [h])
  ·simp [h] at hk
 ·have hd1:1≤d0:=by omega
  simp only [ow0] at hk
  by_cases h:ow k=some c
  ·simp only [h,if_true,Option.some.injEq] at hk;omega
  ·simp [h] at hk
 ·simp only [CV.rel,SV.rel] at hv0 ⊢
  rw [hb0];exact hv0
 ·simp only [Mem.get,aL] at hq
  by_cases hq0:0=q
  ·subst hq0
   simp only [decide_true,cond_true,Option.some.injEq] at hq
   subst hq;exact hin
  ·simp only [hq0,decide_false,cond_false] at hq
   exact e2 q ch0 hq
 rintro e w' ⟨v,β',ow',rfl,E,r1,r2⟩
 have hb':β' 0=β c:=by rw [E.beta 0 (by omega),hb0]
 let ow2:Nat→Option Nat:=fun k=>if ow' k=some 0 then some c else if ow k=some c then none else ow k
 have ho2:∀ k,ow2 k=some c↔ow' k=some 0:=fun k=>by
  simp only [ow2]
  by_cases h:ow' k=some 0
  ·simp [h]
  ·by_cases h2:ow k=some c<;>simp [h,h2]
 refine ⟨v,β,ow2,rfl,⟨fun _ _=>rfl,E.os,E.tape,E.output,E.size,fun k hk hn => ?_,fun k hk c' hc' => ?_,fun k hk => ?_⟩,XV.aW (p:=fun _=>false) (fun _ h=>by cases h) h2 r1,fun q chq hq => ?_⟩
 ·have hne:ow k≠some c:=hn c (by simp)
  have hz:ow0 k=none:=by simp [ow0,hne]
  obtain ⟨m1,m2⟩:=E.keep k hk (fun c0 _ e=>by rw [hz] at e;cases e)
  refine ⟨m1,?_⟩
  simp only [ow2,m2,hz,hne,if_false]
  simp
 ·by_cases h:ow' k=some 0
  ·simp only [ow2,h,if_true,Option.some.injEq] at hc';exact .inl (by simp [hc'])
  ·by_cases h2:ow k=some c
   ·simp [ow2,h,h2] at hc'
   ·simp only [ow2,h,h2,if_false] at hc'
    rcases hk with hk |⟨c0,h0,hk⟩
    ·have:=hw k (by simp [hc']);omega
    ·simp only [List.mem_singleton] at h0;subst h0;exact absurd hk h2
 ·by_cases h:ow' k=some 0
  ·exact E.wf k (by simp [h])
  ·by_cases h2:ow k=some c
   ·simp [ow2,h,h2] at hk
   ·simp only [ow2,h,h2,if_false] at hk
    exact Nat.lt_of_lt_of_le (hw k hk) E.size
 ·simp only [Mem.get,aL] at hq
  by_cases hcq:c=q
  ·subst hcq
   simp only [decide_true,cond_true,Option.some.injEq] at hq
   subst hq
   exact Holds.move (β:=β') (ow:=ow') (c:=0) k2 (by rw [hb']) (fun _ k=>ho2 k) (fun e=>by rw [k4] at e;cases e) (r2 0 ch' (by simp [Mem.get]))
  ·simp [hcq] at hq
theorem fH.of {P:Program} {T:aU} {f:FuncId} {fn:Func} {c:Code} (hT:bf P T) (hf:P.funcs[f]? = some fn) (hb:fn.body=some c) (ch ch':Chunk) (l:List AD) (es:List iX) (X:XV) (hcl:(ch.closed && ch'.closed && !ch.fD && !ch'.fD)=true)
  (hXl:(jl 1 l).all (CV.ok fun i=>Nat.blt i (1 + (fu l + es.length)))=true) (hX:X.ok (fun _=>false)=true)
  (h:∀ C:Ctx,C.n0=1 + (fu l + es.length)→av P C c ⟨fV fn.ntmps (.cv (.one (.ptr 0 0 0 0))::(jl 1 l).map .cv),(0,ch)::qx es 1 l,1 + (fu l + es.length)⟩ (Ends C T fn.results.toList 1 (1 + (fu l + es.length)) ⟨X,[(0,ch')],none⟩)):fH P f ch ch' l es X:=by
 let n:=1 + (fu l + es.length)
 have hcl':=hcl
 simp only [Bool.and_eq_true,Bool.not_eq_true'] at hcl
 obtain ⟨⟨⟨k1,k2⟩,k3⟩,k4⟩:=hcl
 have hi:∀ i,i<n→([0]++(List.range (fu l + es.length)).map (· + 1))[i]? = some i:=by
  intro i hi
  cases i with
  | zero=>rfl
  | succ i =>
   simp only [n] at hi
   have:i<fu l + es.length:=by omega
   simp [this]
 have hall:(CV.one (.ptr 0 0 0 0)::jl 1 l).all (CV.ok fun i=>Nat.blt i n)=true:=by
  rw [List.all_cons,Bool.and_eq_true]
  exact ⟨by simp only [CV.ok,SV.ok,n,Nat.blt_eq];omega,hXl⟩
 have hren:(CV.one (.ptr 0 0 0 0)::jl 1 l)=(CV.one (.ptr 0 0 0 0)::jl 1 l).map (CV.ren fun i=>(([0]++(List.range (fu l + es.length)).map (· + 1))[i]?).getD n):=by
  rw [iB.eu (ρ':=id) (p:=fun i=>Nat.blt i n) (fun c hc=>by simp only [Nat.blt_eq] at hc;rw [hi c hc];rfl) hall,iB.mG]
 have hrange:List.range (1 + (fu l + es.length))=[0]++(List.range (fu l + es.length)).map (· + 1):=by
  rw [Nat.add_comm 1,List.range_succ_eq_map];rfl
 refine ⟨n,?_,Nat.le_refl _,hX,hcl'⟩
 rw [hrange]
 refine fE (ids:=[0]) (rids:=(List.range (fu l + es.length)).map (· + 1)) (Xl := .one (.ptr 0 0 0 0)::jl 1 l) (M0:=(0,ch)::qx es 1 l) (out:=⟨X,[(0,ch')],none⟩) (k1:=1) (n0:=n) hT hf hb (by simp) rfl (by simp [n]) (by simp [n];omega) hall (fun i ch0 hm => ?_) (fun i ch0 hm => ?_) (fun i ch0 hm=>by cases hm) (XV.aG (fun _ h=>by cases h) hX) h hren (XV.aM hX).symm rfl (fun q chq hq => ?_)
 ·have hm':=hm
  simp only [Mem.get,aL] at hm
  by_cases h0:0=i
  ·subst h0
   simp only [decide_true,cond_true,Option.some.injEq] at hm
   subst hm
   exact ⟨by simp [n];omega,k1,fun h=>by omega,fun ci hci=>by simp at hci;subst hci;exact hm'⟩
  ·simp only [h0,decide_false,cond_false] at hm
   obtain ⟨q1,q2,q3,_⟩:=pQ hm
   refine ⟨by simp only [n];omega,?_,fun _=>q3,fun ci hci => ?_⟩
   ·cases ch0<;>first |rfl |cases q3
   ·rw [hi i (by simp only [n];omega)] at hci
    cases hci
    exact hm'
 ·simp only [Mem.get,aL] at hm
  by_cases h0:0=i
  ·subst h0
   simp only [decide_true,cond_true,Option.some.injEq] at hm
   subst hm
   exact ⟨k2,k4⟩
  ·simp [h0] at hm
 ·simp only [Mem.get,aL] at hq
  by_cases h0:0=q
  ·subst h0
   simp only [decide_true,cond_true,Option.some.injEq] at hq
   subst hq
   exact .inl ⟨0,rfl,by simp [Mem.get]⟩
  ·simp [h0] at hq
end Go.Sx
