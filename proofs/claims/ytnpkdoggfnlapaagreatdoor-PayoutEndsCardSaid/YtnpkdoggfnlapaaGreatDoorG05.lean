/- Parts SxO SxP SxQ SxS. -/
import Derived.Test.YtnpkdoggfnlapaaGreatDoorG04
import Derived.Maps.Keyed
import Derived.DeepKeys5
import Derived.Laws.AppendOwn
set_option linter.unusedSimpArgs false
set_option linter.unusedVariables false
namespace Go.Sx
open Go.RowKit
theorem Holds.keep {β β':Nat→Loc} {ow ow':Nat→Option Nat} {w:World} {c:Nat} {ch:Chunk} {p:Nat→Bool} (hp:ch.ok p=true) (hβ:∀ i,p i=true→β' i=β i) (hc:β' c=β c) (ho:ch.fD=false→∀ k,ow' k=some c↔ow k=some c)
  (hn:ch.fD=true→∀ k,ow k=none→ow' k=none) (h:Holds β ow w c ch):Holds β' ow' w c ch:=by
 cases ch with
 | cells e cs =>
  obtain ⟨h0,h1,h2,arr,h3,h4⟩:=h
  exact ⟨by rw [hc];exact h0,by rw [hc];exact h1,by rw [hc];exact (ho rfl _).2 h2,arr,by rw [hc];exact h3,bg.congr (p:=p) hβ hp h4⟩
 | vec e sz n f =>
  simp only [Holds] at h ⊢
  rw [hc]
  by_cases hn':(β c).nil=true
  ·rw [if_pos hn'] at h ⊢;exact h
  ·rw [if_neg hn'] at h ⊢
   exact ⟨h.1,(ho rfl _).2 h.2.1,h.2.2⟩
 | ro sz n f =>
  simp only [Holds] at h ⊢
  rw [hc]
  by_cases hn':(β c).nil=true
  ·rw [if_pos hn'] at h ⊢;exact h
  ·rw [if_neg hn'] at h ⊢
   exact ⟨hn rfl _ h.1,h.2⟩
 | abs A =>
  obtain ⟨h0,h1,h2⟩:=h
  refine ⟨by rw [hc];exact h0,by rw [hc];exact h1,?_⟩
  rw [hc]
  exact A.loc (fun _ _=>rfl) (fun k=>ho rfl k) h2
 | ext A =>
  obtain ⟨O,h1,h2⟩:=h
  exact ⟨O,fun k hk=>⟨hn rfl _ (h1 k hk).1,(h1 k hk).2⟩,by rw [hc];exact h2⟩
theorem Holds.Uh {β:Nat→Loc} {ow ow':Nat→Option Nat} {w:World} {ρ:Nat→Nat} {j:Nat} {ch:Chunk} (hro:ch.fD=false) (ho:∀ k,ow' k=some j↔ow k=some (ρ j)) (h:Holds β ow w (ρ j) (ch.ren ρ)):Holds (fun i=>β (ρ i)) ow' w j ch:=by
 cases ch with
 | cells e cs =>
  obtain ⟨h0,h1,h2,arr,h3,h4⟩:=h
  exact ⟨h0,h1,(ho _).2 h2,arr,h3,(bg.ren cs _).1 h4⟩
 | vec e sz n f =>
  simp only [Chunk.ren,Holds] at h ⊢
  by_cases hn':(β (ρ j)).nil=true
  ·rw [if_pos hn'] at h ⊢;exact h
  ·rw [if_neg hn'] at h ⊢
   exact ⟨h.1,(ho _).2 h.2.1,h.2.2⟩
 | ro sz n f=>cases hro
 | ext A=>cases hro
 | abs A=>exact ⟨h.1,h.2.1,A.loc (fun _ _=>rfl) (fun k=>ho k) h.2.2⟩
def LU (m:Nat) (M:Mem):Bool :=
 (M.all fun x=>Nat.blt x.1 m && x.2.ok (fun i=>Nat.blt 0 i && Nat.blt i m) && !x.2.fD) && (match M.get 0 with |some ch=>ch.isCells |none=>false)
def vB (M:Mem) (inv:Prop):mQ where
 Φ w b _ O:=inv∧(∀ c ch,M.get c=some ch→ch.fD=false)∧∃ β ow,WF ow w∧(β 0).blk=b∧(β 0).base=0∧(β 0).nil=false∧(∀ k c,ow k=some c→∃ ch,M.get c=some ch)∧(∀ k,O k↔ow k≠none)∧(∀ c ch,M.get c=some ch→Holds β ow w c ch)
 loc:=by
  rintro w w' b s O O' hk hO ⟨h0,hro,β,ow,h1,h2,h3,h4,h5,h6,h7⟩
  have same:∀ k,ow k≠none→w'.heap[k]? = w.heap[k]?:=fun k h=>hk k ((h6 k).2 h)
  refine ⟨h0,hro,β,ow,?_,h2,h3,h4,h5,fun k=>(hO k).trans (h6 k),fun c ch hc => ?_⟩
  ·intro k h
   have e:=same k h
   rw [Array.getElem?_eq_getElem (h1 k h)] at e
   exact (Array.getElem?_eq_some_iff.1 e).1
  ·have:=Holds.trans (β:=β) (β':=β) (ow:=ow) (ow':=ow) (w:=w) (w':=w') (c:=c) (c':=c) (ρ:=id) (ch:=ch) (p:=fun _=>true) ?_ (fun _ _=>rfl) rfl rfl rfl (.inl ⟨rfl,rfl⟩) (hro c ch hc) (fun _=>Iff.rfl) (fun k hk=>same k (by simp [hk])) (h7 c ch hc)
   ·have e:ch.ren id=ch:=by
     cases ch with
     | cells e cs =>
      have:∀ l:List SV,l.map (SV.ren id)=l:=by
       intro l;induction l with
       | nil=>rfl
       | cons s r ih=>rw [List.map_cons,ih,SV.SY (ρ:=id) (fun _ _=>rfl) (SV.Sb s)]
      simp only [Chunk.ren,this]
     | _=>rfl
    rwa [e] at this
   ·cases ch with
    | cells e cs=>simp only [Chunk.ok,List.all_eq_true];intro s _;exact SV.Sb s
    | _=>rfl
 in_heap:=by
  rintro w b s O ⟨_,_,β,ow,h1,_,_,_,_,h6,_⟩ k hk
  exact h1 k ((h6 k).1 hk)
theorem Mem.qD {ρ:Nat→Nat} (hρ:∀ i j,ρ i=ρ j→i=j):∀ (M:Mem) (c:Nat) (ch:Chunk),(M.ren ρ).get c=some ch→∃ j ch0,M.get j=some ch0∧c=ρ j∧ch=ch0.ren ρ
 | [],c,ch,h=>by simp [Mem.ren,Mem.get] at h
 | (k,x)::r,c,ch,h=>by
  simp only [Mem.ren,Mem.get,aL] at h
  by_cases hk:ρ k=c
  ·simp only [hk,decide_true,cond_true,Option.some.injEq] at h
   exact ⟨k,x,by simp [Mem.get],hk.symm,h.symm⟩
  ·simp only [hk,decide_false,cond_false] at h
   obtain ⟨j,ch0,h1,h2,h3⟩:=Mem.qD hρ r c ch h
   refine ⟨j,ch0,?_,h2,h3⟩
   have:¬ k=j:=fun e=>hk (by rw [e,h2])
   simp only [Mem.get,aL,this,decide_false,cond_false,h1]
theorem SV.GX {p:Nat→Bool} {ρ:Nat→Nat} (s:SV):(s.ren ρ).ok p=s.ok (fun i=>p (ρ i)):=by
 cases s with
 | fn f caps=>simp only [SV.ren,SV.ok,List.all_map];rfl
 | _=>rfl
theorem Chunk.GX {p:Nat→Bool} {ρ:Nat→Nat} (ch:Chunk):(ch.ren ρ).ok p=ch.ok (fun i=>p (ρ i)):=by
 cases ch with
 | cells e cs =>
  simp only [Chunk.ren,Chunk.ok,List.all_map]
  congr 1
  funext s
  exact SV.GX s
 | _=>rfl
def opn (c nx j:Nat):Nat:=match j with |0=>c |j + 1=>nx + (j + 1)
theorem Vd {c nx:Nat} (h:c<nx):∀ i j,opn c nx i=opn c nx j→i=j:=by
 intro i j e
 cases i<;>cases j<;>simp only [opn] at e<;>omega
def St.opened (S:St) (c:Nat) (M:Mem) (m:Nat):St:=⟨S.slots,M.ren (opn c S.nx)++S.mem.del c,S.nx + m⟩
theorem Fe {m:Nat} {M:Mem} (h:LU m M=true):(∀ c ch,M.get c=some ch→c<m∧ch.ok (fun i=>Nat.blt 0 i && Nat.blt i m)=true∧ch.fD=false)∧∃ ch,M.get 0=some ch∧ch.isCells=true:=by
 simp only [LU,Bool.and_eq_true,List.all_eq_true,Bool.not_eq_true'] at h
 obtain ⟨h1,h2⟩:=h
 have mem:∀ (l:Mem) c ch,l.get c=some ch→(c,ch)∈l:=by
  intro l
  induction l with
  | nil=>intro c ch h;simp [Mem.get] at h
  | cons z r ih =>
   obtain ⟨k,ck⟩:=z
   intro c ch h
   simp only [Mem.get,aL] at h
   by_cases hk:k=c
   ·simp only [hk,decide_true,cond_true,Option.some.injEq] at h;subst hk;subst h;simp
   ·simp only [hk,decide_false,cond_false] at h;exact List.mem_cons_of_mem _ (ih c ch h)
 refine ⟨fun c ch hc => ?_,?_⟩
 ·obtain ⟨⟨g1,g2⟩,g3⟩:=h1 _ (mem M c ch hc)
  exact ⟨by simpa using g1,by simpa using g2,g3⟩
 ·split at h2
  ·rename_i ch hch;exact ⟨ch,hch,h2⟩
  ·cases h2
theorem Sd {C:Ctx} {S:St} {c m:Nat} {M:Mem} {inv:Prop} (hc:S.mem.get c=some (.abs (vB M inv))) (hM:LU m M=true) {a:Act} {w:World} (hs:iZ C S a w):inv∧iZ C (S.opened c M m) a w:=by
 obtain ⟨β,ow,h1,h2,h3,h4,h5⟩:=hs
 obtain ⟨hk,ch0,hk0,hkc⟩:=Fe hM
 obtain ⟨g0,g1,hinv,hnro,βl,owl,g2,g3,g4,g5,g6,g7,g8⟩:=h1.mem c _ hc
 have hcn:c<S.nx:=by have:=(h2.mem c _ hc).1;simpa using this
 refine ⟨hinv,?_⟩
 let ρ:=opn c S.nx
 let β':Nat→Loc:=fun i=>if S.nx<i∧i<S.nx + m then βl (i - S.nx) else β i
 let ow':Nat→Option Nat:=fun k=>match owl k with |some j=>some (ρ j) |none=>ow k
 have hρ:∀ i j,ρ i=ρ j→i=j:=Vd hcn
 have hβold:∀ i,i<S.nx→β' i=β i:=fun i hi=>by simp only [β'];rw [if_neg (by omega)]
 have hβnew:∀ i,0<i→i<m→β' (ρ i)=βl i:=by
  intro i h0 hi
  cases i with
  | zero=>omega
  | succ i =>
   simp only [ρ,opn,β']
   rw [if_pos (by omega)]
   congr 1;omega
 have hOk:∀ k,ow k=some c↔owl k≠none:=fun k=>g7 k
 have hown:∀ k i,ow k=some i→i<S.nx:=fun k i h=>by simpa using h5 k i h
 have ho:∀ j k,ow' k=some (ρ j)↔owl k=some j:=by
  intro j k
  simp only [ow']
  cases hl:owl k with
  | some j' =>
   simp only [Option.some.injEq]
   exact ⟨fun e=>hρ _ _ e,fun e=>by rw [e]⟩
  | none =>
   simp only [reduceCtorEq,iff_false]
   intro e
   cases j with
   | zero=>exact absurd hl ((hOk k).1 e)
   | succ j=>have:=hown k _ e;simp only [ρ,opn] at this;omega
 have hother:∀ c' k,c'≠c→c'<S.nx→(ow' k=some c'↔ow k=some c'):=by
  intro c' k h hlt
  simp only [ow']
  cases hl:owl k with
  | some j =>
   have hck:=(hOk k).2 (by simp [hl])
   simp only [hck,Option.some.injEq]
   constructor
   ·intro e
    cases j with
    | zero=>exact e
    | succ j=>simp only [ρ,opn] at e;omega
   ·intro e;exact absurd e.symm h
  | none=>exact Iff.rfl
 refine ⟨β',ow',⟨h1.defers,h1.size,fun t X hX => ?_,fun c' ch hc' => ?_,fun k hk' => ?_⟩,⟨fun t X hX => ?_,fun c' ch hc' => ?_⟩,⟨h3.os,h3.tape,h3.output,h3.size,fun k hk1 hk2 => ?_,fun i hi => ?_⟩,by simp only [St.opened];omega,fun k i hi => ?_⟩
 ·exact XV.aW (p:=fun i=>Nat.blt i S.nx) (fun i hi=>hβold i (by simpa using hi)) (h2.slots t X hX) (h1.slots t X hX)
 ·simp only [St.opened,Mem.get_append] at hc'
  cases hg:(M.ren (opn c S.nx)).get c' with
  | some y =>
   simp only [hg,Option.some_or,Option.some.injEq] at hc'
   subst hc'
   obtain ⟨j,cj,e1,rfl,rfl⟩:=Mem.qD hρ M c' y hg
   obtain ⟨k1,k2,k3⟩:=hk j cj e1
   have hloc:(β' (ρ j)).blk=(βl j).blk∧(β' (ρ j)).base=(βl j).base∧(β' (ρ j)).nil=(βl j).nil∧(((β' (ρ j)).cap=(βl j).cap∧(β' (ρ j)).sub=(βl j).sub)∨cj.isCells=true):=by
    cases j with
    | zero =>
     have e2:β' (ρ 0)=β c:=hβold c hcn
     rw [e1] at hk0
     cases hk0
     exact ⟨by rw [e2,g3],by rw [e2,g1,g4],by rw [e2,g0,g5],.inr hkc⟩
    | succ j=>rw [hβnew (j + 1) (by omega) k1];exact ⟨rfl,rfl,rfl,.inl ⟨rfl,rfl⟩⟩
   exact Holds.trans (p:=fun i=>Nat.blt 0 i && Nat.blt i m) k2 (fun i hi=>by simp only [Bool.and_eq_true,Nat.blt_eq] at hi;exact hβnew i hi.1 hi.2) hloc.1 hloc.2.1 hloc.2.2.1 hloc.2.2.2 k3 (fun k=>ho j k) (fun _ _=>rfl) (g8 j cj e1)
  | none =>
   simp only [hg,Option.none_or,Mem.eP] at hc'
   split at hc'
   ·cases hc'
   ·rename_i hne
    obtain ⟨k1,k2⟩:=h2.mem c' ch hc'
    have hlt:c'<S.nx:=by simpa using k1
    refine Holds.keep (p:=fun i=>Nat.blt i S.nx) k2 (fun i hi=>hβold i (by simpa using hi)) (hβold c' hlt) (fun _ k=>hother c' k hne hlt) (fun _ k hn => ?_) (h1.mem c' ch hc')
    simp only [ow']
    cases hl:owl k with
    | some j=>have:=(hOk k).2 (by simp [hl]);rw [hn] at this;cases this
    | none=>exact hn
 ·simp only [ow'] at hk'
  cases hl:owl k with
  | some j=>exact g2 k (by simp [hl])
  | none=>simp only [hl] at hk';exact h1.wf k hk'
 ·exact XV.aG (fun i hi=>by simp only [Nat.blt_eq,St.opened] at hi ⊢;omega) (h2.slots t X hX)
 ·simp only [St.opened,Mem.get_append] at hc' ⊢
  cases hg:(M.ren (opn c S.nx)).get c' with
  | some y =>
   simp only [hg,Option.some_or,Option.some.injEq] at hc'
   subst hc'
   obtain ⟨j,cj,e1,rfl,rfl⟩:=Mem.qD hρ M c' y hg
   obtain ⟨k1,k2,k3⟩:=hk j cj e1
   have hm:0<m:=by omega
   refine ⟨?_,?_⟩
   ·cases j<;>simp only [ρ,opn,Nat.blt_eq]<;>omega
   ·rw [Chunk.GX]
    refine Chunk.aG (fun i hi => ?_) k2
    simp only [Bool.and_eq_true,Nat.blt_eq] at hi ⊢
    cases i<;>simp only [ρ,opn]<;>omega
  | none =>
   simp only [hg,Option.none_or,Mem.eP] at hc'
   split at hc'
   ·cases hc'
   ·obtain ⟨k1,k2⟩:=h2.mem c' ch hc'
    exact ⟨by simp only [Nat.blt_eq] at k1 ⊢;omega,Chunk.aG (fun i hi=>by simp only [Nat.blt_eq] at hi ⊢;omega) k2⟩
 ·obtain ⟨e1,e2⟩:=h3.keep k hk1 hk2
  refine ⟨e1,?_⟩
  simp only [ow']
  cases hl:owl k with
  | some j=>have:=(hOk k).2 (by simp [hl]);rw [e2] at this;cases this
  | none=>exact e2
 ·rw [hβold i (by omega)];exact h3.beta i hi
 ·simp only [ow'] at hi
  cases hl:owl k with
  | some j =>
   simp only [hl,Option.some.injEq] at hi
   subst hi
   obtain ⟨cj,e1⟩:=g6 k j hl
   have:=(hk j cj e1).1
   cases j<;>simp only [ρ,opn,Nat.blt_eq,St.opened]<;>omega
  | none =>
   simp only [hl] at hi
   have:=hown k i hi
   simp only [Nat.blt_eq,St.opened];omega
theorem av.opens {P:Program} {C:Ctx} {cd:Code} {S:St} {Q:Exit→St→Prop} {c m:Nat} {M:Mem} {inv:Prop} (hc:S.mem.get c=some (.abs (vB M inv))) (hM:LU m M=true) (h:inv→av P C cd (S.opened c M m) Q):av P C cd S Q:=by
 intro a w hs
 obtain ⟨h1,h2⟩:=Sd hc hM hs
 exact h h1 a w h2
def St.shut (S:St) (c:Nat) (ids:List Nat) (M:Mem) (inv:Prop):St:=⟨S.slots,(c,.abs (vB M inv))::S.mem.mD ids,S.nx⟩
theorem aN.shut {C:Ctx} {S:St} {c:Nat} {ids:List Nat} {M:Mem} {inv:Prop} (hids:ids.Nodup) (hc:ids[0]? = some c) (hinv:inv) (hroot:∃ ch,S.mem.get c=some ch∧ch.isCells=true) (hM:LU ids.length M=true)
  (hcov:∀ j i,ids[j]? = some i→∃ ch ch0,M.get j=some ch∧S.mem.get i=some ch0∧kZ ch0 (ch.ren fun j=>(ids[j]?).getD 0)):aN C S (S.shut c ids M inv):=by
 rintro a w ⟨β,ow,h1,h2,h3,h4,h5⟩
 obtain ⟨hk,_⟩:=Fe hM
 let ι:Nat→Nat:=fun j=>(ids[j]?).getD 0
 let owl:Nat→Option Nat:=fun k=>(ow k).bind fun i=>lidx i ids
 let ow':Nat→Option Nat:=fun k=>match owl k with |some _=>some c |none=>ow k
 have hcm:c∈ids:=List.mem_of_getElem? hc
 have hcn:c<S.nx:=by obtain ⟨ch,h,_⟩:=hroot;have:=(h2.mem c ch h).1;simpa using this
 have hown:∀ k j,owl k=some j↔∃ i,ids[j]? = some i∧ow k=some i:=by
  intro k j
  constructor
  ·intro hk
   cases ho:ow k with
   | none=>simp [owl,ho] at hk
   | some i=>exact ⟨i,fM (by simpa [owl,ho] using hk),rfl⟩
  ·rintro ⟨i,e1,e2⟩
   simp only [owl,e2,Option.bind_some]
   exact cB hids e1
 have hmemid:∀ k i,ow k=some i→i∈ids→owl k≠none:=by
  intro k i e hi
  obtain ⟨j,hj⟩:=List.getElem?_of_mem hi
  rw [(hown k j).2 ⟨i,hj,e⟩];simp
 have hO:∀ k,ow' k=some c↔owl k≠none:=by
  intro k
  simp only [ow']
  cases hl:owl k with
  | some j=>simp
  | none =>
   simp only [ne_eq,not_true_eq_false,iff_false]
   intro e
   exact hmemid k c e hcm hl
 have hlen:∀ j i,ids[j]? = some i→j<ids.length:=fun j i h=>(List.getElem?_eq_some_iff.1 h).1
 have hinner:∀ j ch,M.get j=some ch→Holds (fun i=>β (ι i)) owl w j ch:=by
  intro j ch hj
  obtain ⟨k1,_,k3⟩:=hk j ch hj
  have hi:ids[j]? = some ids[j]:=List.getElem?_eq_getElem k1
  obtain ⟨ch1,ch0,e1,e2,e3⟩:=hcov j _ hi
  rw [hj] at e1;cases e1
  have hh:=e3.holds (h1.mem _ ch0 e2)
  have hιj:ι j=ids[j]:=by simp [ι,hi]
  rw [← hιj] at hh
  refine Holds.Uh (ρ:=ι) k3 (fun k => ?_) hh
  rw [hown,hιj]
  constructor
  ·rintro ⟨i,f1,f2⟩;rw [hi] at f1;cases f1;exact f2
  ·intro f;exact ⟨_,hi,f⟩
 have habs:Holds β ow' w c (.abs (vB M inv)):=by
  obtain ⟨chr,hr1,hr2⟩:=hroot
  have hr:=h1.mem c chr hr1
  cases chr with
  | cells e cs =>
   obtain ⟨r0,r1,_⟩:=hr
   refine ⟨r0,r1,hinv,fun j ch hj=>(hk j ch hj).2.2,fun i=>β (ι i),owl,?_,by simp [ι,hc],by simp [ι,hc,r1],by simp [ι,hc,r0],?_,hO,hinner⟩
   ·intro k hk'
    refine h1.wf k (fun e=>hk' ?_)
    simp [owl,e]
   ·intro k j hj
    obtain ⟨i,e1,_⟩:=(hown k j).1 hj
    obtain ⟨ch,ch0,f1,_⟩:=hcov j i e1
    exact ⟨ch,f1⟩
  | _=>cases hr2
 refine ⟨β,ow',⟨h1.defers,h1.size,h1.slots,fun c' ch hc' => ?_,fun k hk' => ?_⟩,⟨h2.slots,fun c' ch hc' => ?_⟩,⟨h3.os,h3.tape,h3.output,h3.size,fun k hk1 hk2 => ?_,h3.beta⟩,h4,fun k i hi => ?_⟩
 ·simp only [St.shut,Mem.get,aL,Mem.eU] at hc'
  by_cases hcc:c=c'
  ·subst hcc
   simp only [decide_true,cond_true,Option.some.injEq] at hc'
   subst hc'
   exact habs
  ·simp only [hcc,decide_false,cond_false] at hc'
   split at hc'
   ·cases hc'
   ·rename_i hni
    refine Holds.keep (p:=fun _=>true) ?_ (fun _ _=>rfl) rfl (fun _ k => ?_) (fun _ k hn => ?_) (h1.mem c' ch hc')
    ·exact Chunk.aG (fun _ _=>rfl) (h2.mem c' ch hc').2
    ·simp only [ow']
     cases hl:owl k with
     | some j =>
      obtain ⟨i,e1,e2⟩:=(hown k j).1 hl
      simp only [e2,Option.some.injEq]
      constructor
      ·intro e;exact absurd e hcc
      ·intro e;exact absurd (e▸List.mem_of_getElem? e1) hni
     | none=>exact Iff.rfl
    ·simp only [ow',owl,hn,Option.bind_none]
 ·simp only [ow'] at hk'
  refine h1.wf k (fun e=>hk' ?_)
  simp [owl,e]
 ·simp only [St.shut,Mem.get,aL,Mem.eU] at hc'
  by_cases hcc:c=c'
  ·subst hcc
   simp only [decide_true,cond_true,Option.some.injEq] at hc'
   subst hc'
   exact ⟨by simpa [St.shut] using hcn,rfl⟩
  ·simp only [hcc,decide_false,cond_false] at hc'
   split at hc'
   ·cases hc'
   ·exact h2.mem c' ch hc'
 ·obtain ⟨e1,e2⟩:=h3.keep k hk1 hk2
  exact ⟨e1,by simp only [ow',owl,e2,Option.bind_none]⟩
 ·simp only [ow'] at hi
  cases hl:owl k with
  | some j=>simp only [hl,Option.some.injEq] at hi;rw [← hi];simpa [St.shut] using hcn
  | none=>simp only [hl] at hi;exact h5 k i hi
def St.sM (S:St) (c:Nat) (e:TypeId) (cs:List SV) (j:Nat) (e' sz:Nat):St:=⟨S.slots,(c,.cells e (cs.set j (.slc S.nx sz 0 0)))::(S.nx,.vec e' sz 0 fun _=>[])::S.mem.del c,S.nx + 1⟩
theorem bg.set {β:Nat→Loc}:∀ {ss:List SV} {vs:List Value} (j:Nat) (s:SV) (v:Value),bg β ss vs→vs[j]? = some v→s.rel β v→bg β (ss.set j s) vs
 | [],vs,j,s,v,h,hv,_=>by cases h;simp at hv
 | x::r,vs,0,s,v,h,hv,hs=>by
  obtain ⟨y,r',rfl,h1,h2⟩:=h
  simp only [List.getElem?_cons_zero,Option.some.injEq] at hv
  subst hv
  exact ⟨y,r',rfl,hs,h2⟩
 | x::r,vs,j + 1,s,v,h,hv,hs=>by
  obtain ⟨y,r',rfl,h1,h2⟩:=h
  exact ⟨y,r',rfl,h1,bg.set j s v h2 (by simpa using hv) hs⟩
theorem aN.sM {C:Ctx} {S:St} {c:Nat} {e:TypeId} {cs:List SV} {j:Nat} (hc:S.mem.get c=some (.cells e cs)) (hj:cs[j]? = some (.raw (.slice none 0 0))) (e' sz:Nat):aN C S (S.sM c e cs j e' sz):=by
 rintro a w ⟨β,ow,h1,h2,h3,h4,h5⟩
 let β':=aX β S.nx ⟨0,0,0,true,fun _=>0⟩
 have hold:∀ i,Nat.blt i S.nx=true→β' i=β i:=fun i hi=>by
  have:i≠S.nx:=by
    have:i<S.nx:=by simpa using hi
    omega
  simp [β',aX,this]
 have hcn:=(h2.mem c _ hc).1
 refine ⟨β',ow,⟨h1.defers,h1.size,fun t X hX=>XV.aW hold (h2.slots t X hX) (h1.slots t X hX),fun c' ch hc' => ?_,h1.wf⟩,⟨fun t X hX=>XV.aG (fun i hi=>by simp only [Nat.blt_eq,St.sM] at hi ⊢;omega) (h2.slots t X hX),fun c' ch hc' => ?_⟩,
  ⟨h3.os,h3.tape,h3.output,h3.size,h3.keep,fun i hi=>by rw [hold i (by simp only [Nat.blt_eq];omega)];exact h3.beta i hi⟩,by simp only [St.sM];omega,h5.mono (fun i hi=>by simp only [Nat.blt_eq,St.sM] at hi ⊢;omega)⟩
 ·simp only [St.sM,Mem.get,aL,Mem.eP] at hc'
  by_cases hcc:c=c'
  ·subst hcc
   simp only [decide_true,cond_true,Option.some.injEq] at hc'
   subst hc'
   obtain ⟨g0,g1,g2,arr,g3,g4⟩:=h1.mem c _ hc
   have e0:β' c=β c:=hold c hcn
   obtain ⟨v,f1,f2⟩:=g4.get j _ hj
   refine ⟨by rw [e0];exact g0,by rw [e0];exact g1,by rw [e0];exact g2,arr,by rw [e0];exact g3,?_⟩
   refine bg.set j _ v (bg.congr hold (h2.mem c _ hc).2 g4) f1 ?_
   simp only [SV.rel] at f2
   subst f2
   simp [SV.rel,β',aX]
  ·simp only [hcc,decide_false,cond_false] at hc'
   by_cases hn:S.nx=c'
   ·subst hn
    simp only [decide_true,cond_true,Option.some.injEq] at hc'
    subst hc'
    simp [Holds,β',aX]
   ·simp only [hn,decide_false,cond_false] at hc'
    split at hc'
    ·cases hc'
    ·obtain ⟨k1,k2⟩:=h2.mem c' ch hc'
     exact Holds.keep k2 hold (hold c' k1) (fun _ _=>Iff.rfl) (fun _ _ h=>h) (h1.mem c' ch hc')
 ·simp only [St.sM,Mem.get,aL,Mem.eP] at hc' ⊢
  by_cases hcc:c=c'
  ·subst hcc
   simp only [decide_true,cond_true,Option.some.injEq] at hc'
   subst hc'
   refine ⟨by simp only [Nat.blt_eq] at hcn ⊢;omega,?_⟩
   simp only [Chunk.ok,List.all_eq_true]
   intro s hs
   rcases List.mem_or_eq_of_mem_set hs with h |h
   ·exact SV.aG (fun i hi=>by simp only [Nat.blt_eq] at hi ⊢;omega) (List.all_eq_true.1 (h2.mem c _ hc).2 s h)
   ·subst h;simp [SV.ok]
  ·simp only [hcc,decide_false,cond_false] at hc'
   by_cases hn:S.nx=c'
   ·subst hn
    simp only [decide_true,cond_true,Option.some.injEq] at hc'
    subst hc'
    exact ⟨by simp,rfl⟩
   ·simp only [hn,decide_false,cond_false] at hc'
    split at hc'
    ·cases hc'
    ·obtain ⟨k1,k2⟩:=h2.mem c' ch hc'
     exact ⟨by simp only [Nat.blt_eq] at k1 ⊢;omega,Chunk.aG (fun i hi=>by simp only [Nat.blt_eq] at hi ⊢;omega) k2⟩
open Go.RowKit Go.MapKept
def tJ:Value→CV
 | .agg cs => .agg (cs.toList.map .raw)
 | v => .one (.raw v)
theorem nD {β:Nat→Loc} (v x:Value):(tJ v).rel β x↔x=v:=by
 cases v<;>simp only [tJ,CV.rel,SV.rel]
 rename_i cs
 constructor
 ·rintro ⟨arr,rfl,h⟩
  have:∀ (l:List Value) (r:List Value),bg β (l.map .raw) r→r=l:=by
   intro l
   induction l with
   | nil=>intro r h;exact h
   | cons y t ih=>rintro r ⟨v,r',rfl,h1,h2⟩;simp only [SV.rel] at h1;rw [h1,ih r' h2]
  have e:=this _ _ h
  rw [← Array.toList_inj.1 e]
 ·rintro rfl
  exact ⟨cs,rfl,bg.raw _⟩
structure NZ (P:Program) (t:TypeId) {K:Type} (kx:K→Value):Prop where
 inj:∀ a b,kx a=kx b→a=b
 check:∀ (w:World) (em:Bool) (a:K),(Instr.checkKey em 10000 t (kx a)).run P w = .ok () w
 find:∀ (w:World) (a:K) (es:List MapEntry),(∀ e∈es,∃ b,e.key=kx b) →
  ((Instr.findKey t (kx a) es).run P w = .ok none w∧∀ e∈es,e.key≠kx a)∨∃ j e,(Instr.findKey t (kx a) es).run P w = .ok (some (j,e.val)) w∧es[j]? = some e∧e.key=kx a
 stays:∀ (w:World) (a:K),(Instr.keyThatStays (kx a) (kx a)).run P w = .ok (kx a) w
theorem NZ.of {P:Program} {t:TypeId} {K:Type} {kx:K→Value} (L:Maps.Keyed P t) (hi:∀ a b,kx a=kx b→a=b) (hk:∀ a,∃ l,keyOf P t (kx a)=some l):NZ P t kx where
 inj:=hi
 check w em a:=by obtain ⟨l,h⟩:=hk a;exact L.check w em h
 find w a es he:=by
  obtain ⟨l,h⟩:=hk a
  exact L.find w h es fun e hm=>by
   obtain ⟨b,hb⟩:=he e hm
   rw [hb];exact hk b
 stays w a:=by obtain ⟨l,h⟩:=hk a;exact L.stays w h
section
variable {K V:Type} [DecidableEq K]
def dS:List (K×V)→K→Option V
 | [],_=>none
 | x::r,k=>if x.1=k then some x.2 else dS r k
def jJ:List (K×V)→K→V→List (K×V)
 | [],k,v=>[(k,v)]
 | x::r,k,v=>if x.1=k then (k,v)::r else x::jJ r k v
def X9:List (K×V)→K→List (K×V)
 | [],_=>[]
 | x::r,k=>if x.1=k then r else x::X9 r k
theorem OY {l:List (K×V)} {k:K} (h:∀ x∈l,x.1≠k):dS l k=none:=by
 induction l with
 | nil=>rfl
 | cons x r ih =>
  simp only [dS]
  rw [if_neg (h x (by simp)),ih (fun y hy=>h y (by simp [hy]))]
theorem zL {l:List (K×V)} {k:K} {v:V} (h:∀ x∈l,x.1≠k):jJ l k v=l++[(k,v)]:=by
 induction l with
 | nil=>rfl
 | cons x r ih =>
  simp only [jJ]
  rw [if_neg (h x (by simp)),ih (fun y hy=>h y (by simp [hy]))]
  rfl
theorem OZ {l:List (K×V)} {k:K} {v:V} {j:Nat} (hn:(l.map (·.1)).Nodup) (h:l[j]? = some (k,v)):dS l k=some v:=by
 induction l generalizing j with
 | nil=>simp at h
 | cons x r ih =>
  simp only [List.map_cons,List.nodup_cons] at hn
  simp only [dS]
  cases j with
  | zero=>simp at h;simp [h]
  | succ j =>
   simp only [List.getElem?_cons_succ] at h
   have:¬ x.1=k:=fun e=>hn.1 (by rw [e];exact List.mem_map.2 ⟨_,List.mem_of_getElem? h,rfl⟩)
   rw [if_neg this]
   exact ih hn.2 h
theorem O0 {l:List (K×V)} {k:K} {v v':V} {j:Nat} (hn:(l.map (·.1)).Nodup) (h:l[j]? = some (k,v)):jJ l k v'=l.set j (k,v'):=by
 induction l generalizing j with
 | nil=>simp at h
 | cons x r ih =>
  simp only [List.map_cons,List.nodup_cons] at hn
  simp only [jJ]
  cases j with
  | zero=>simp at h;simp [h]
  | succ j =>
   simp only [List.getElem?_cons_succ] at h
   have:¬ x.1=k:=fun e=>hn.1 (by rw [e];exact List.mem_map.2 ⟨_,List.mem_of_getElem? h,rfl⟩)
   rw [if_neg this,ih hn.2 h]
   rfl
end
def Bw {K V:Type} (kx:K→Value) (vx:V→Value) (l:List (K×V)):mQ where
 Φ w b _ O:=(∀ k,O k↔k=b)∧∃ es clock,w.heap[b]? = some (.map es clock)∧Stamped es clock∧es.toList.map (fun e=>(e.key,e.val))=l.map fun x=>(kx x.1,vx x.2)
 loc:=by
  rintro w w' b s O O' hk hO ⟨h1,es,clock,h2,h3⟩
  exact ⟨fun k=>(hO k).trans (h1 k),es,clock,(hk b ((h1 b).2 rfl)).trans h2,h3⟩
 in_heap:=by
  rintro w b s O ⟨h1,es,clock,h2,_⟩ k hk
  rw [(h1 k).1 hk]
  exact (Array.getElem?_eq_some_iff.1 h2).1
section
variable {P:Program} {S:St} {d:Nat} {o:Oper} {K V:Type} [DecidableEq K] {kx:K→Value} {vx:V→Value} {l:List (K×V)} {t kt et:TypeId}
omit [DecidableEq K] in
theorem E8 {es:Array MapEntry} (h:es.toList.map (fun e=>(e.key,e.val))=l.map fun x=>(kx x.1,vx x.2)):∀ e∈es.toList,∃ b,e.key=kx b:=by
 intro e he
 have:(e.key,e.val)∈es.toList.map (fun e=>(e.key,e.val)):=List.mem_map.2 ⟨e,he,rfl⟩
 rw [h] at this
 obtain ⟨x,_,hx⟩:=List.mem_map.1 this
 exact ⟨x.1,by simp only [Prod.mk.injEq] at hx;exact hx.1.symm⟩
omit [DecidableEq K] in
theorem E9 {es:Array MapEntry} (h:es.toList.map (fun e=>(e.key,e.val))=l.map fun x=>(kx x.1,vx x.2)) {a:K} (hn:∀ e∈es.toList,e.key≠kx a):∀ x∈l,x.1≠a:=by
 intro x hx e
 have:(kx x.1,vx x.2)∈l.map (fun x=>(kx x.1,vx x.2)):=List.mem_map.2 ⟨x,hx,rfl⟩
 rw [← h] at this
 obtain ⟨y,hy,hxy⟩:=List.mem_map.1 this
 simp only [Prod.mk.injEq] at hxy
 exact hn y hy (by rw [hxy.1,e])
omit [DecidableEq K] in
theorem Fa (hi:∀ a b,kx a=kx b→a=b) {es:Array MapEntry} (h:es.toList.map (fun e=>(e.key,e.val))=l.map fun x=>(kx x.1,vx x.2)) {a:K} {j:Nat} {e:MapEntry} (he:es.toList[j]? = some e) (hk:e.key=kx a):∃ v,l[j]? = some (a,v)∧e.val=vx v:=by
 have h1:(es.toList.map (fun e=>(e.key,e.val)))[j]? = some (e.key,e.val):=by simp [he]
 rw [h,List.getElem?_map] at h1
 cases hl:l[j]? with
 | none=>simp [hl] at h1
 | some x =>
  simp only [hl,Option.map_some,Option.some.injEq,Prod.mk.injEq] at h1
  have:x.1=a:=hi _ _ (by rw [h1.1,hk])
  exact ⟨x.2,by rw [← this],h1.2.symm⟩
omit [DecidableEq K] in
theorem Cw {es:Array MapEntry} {clock:Nat} (hs:Stamped es clock) (h:es.toList.map (fun e=>(e.key,e.val))=l.map fun x=>(kx x.1,vx x.2)):(l.map (·.1)).Nodup:=by
 have h1:es.toList.map (·.key)=(l.map (·.1)).map kx:=by
  have:=congrArg (List.map Prod.fst) h
  simpa [List.map_map,Function.comp_def] using this
 have h2:=hs.2.2
 rw [h1] at h2
 have:∀ m:List K,(m.map kx).Nodup→m.Nodup:=by
  intro m
  induction m with
  | nil=>simp
  | cons x r ih =>
   simp only [List.map_cons,List.nodup_cons]
   rintro ⟨g1,g2⟩
   exact ⟨fun hm=>g1 (List.mem_map.2 ⟨x,hm,rfl⟩),ih g2⟩
 exact this _ h2
theorem EY (KL:NZ P kt kx) (ht:P.underlying t=some (.map kt et)) {z0:V} (hz:∀ w:World,(zeroValue et).run P w = .ok (vx z0) w) {x ix:Operand} {ok:Bool} (ho:o.op = .lookup t x ix ok) {c:Nat} (hx:S.ev x=some (XV.sv (.map c))) (a:K) (hi:S.ev ix=some (.cv (tJ (kx a))))
  (hm:S.mem.get c=some (.abs (Bw kx vx l))):bT P S d o { v:=if ok then .tup [tJ (vx ((dS l a).getD z0)),.one (.raw (.bool (dS l a).isSome))] else .cv (tJ (vx ((dS l a).getD z0))) } [c]:=by
 refine uI fun β ow w ac hw hops hr => ?_
 have h1:=hops x (by rw [ho];simp [Op.operands]) _ hx
 have h2:=hops ix (by rw [ho];simp [Op.operands]) _ hi
 simp only [XV.rel,nD] at h2
 simp only [XV.rel,CV.rel,SV.rel] at h1
 obtain ⟨_,_,_,es,clock,hb,hs,hl⟩:=hr c (by simp) _ hm
 have hn:=Cw hs hl
 have main:∃ v b,(Instr.lookup t (.map (some (β c).blk)) (kx a) ok).run P w = .ok (if ok then .tuple #[v,.bool b] else v) w∧v=vx ((dS l a).getD z0)∧b=(dS l a).isSome:=by
  rcases KL.find w a es.toList (E8 hl) with ⟨g1,g2⟩ |⟨j,e,g1,g2,g3⟩
  ·have:=OY (E9 hl g2)
   refine ⟨vx z0,false,?_,by rw [this];rfl,by rw [this];rfl⟩
   simp [Instr.lookup,run_underlying ht,MapKept.run_getObj_map hb,KL.check w _ a,g1,hz,Result.andThen]
  ·obtain ⟨v,g4,g5⟩:=Fa KL.inj hl g2 g3
   have:=OZ hn g4
   refine ⟨e.val,true,?_,by rw [this,g5];rfl,by rw [this];rfl⟩
   simp [Instr.lookup,run_underlying ht,MapKept.run_getObj_map hb,KL.check w _ a,g1,Result.andThen]
 obtain ⟨v,b,m1,m2,m3⟩:=main
 refine ⟨_,by simp only [execOp,ho,h1,h2];exact value_of m1,?_⟩
 cases ok with
 | true=>exact ⟨_,rfl,v,[.bool b],rfl,(nD _ _).2 m2,.bool b,[],rfl,by rw [m3];rfl,rfl⟩
 | false=>exact (nD _ _).2 m2
theorem Eff.Y4 {β:Nat→Loc} {ow:Nat→Option Nat} {w:World} (hw:WF ow w) (d c:Nat) {g:Nat} (hg:ow g=some c) (ob:Obj):Eff β ow w β ow (ChangeMaps.setBlock w g ob) [c] d:=by
 refine ⟨fun _ _=>rfl,rfl,rfl,rfl,by simp [ChangeMaps.setBlock],fun k hk hn=>⟨?_,rfl⟩,fun k hk c' hc => ?_,fun k hk=>by simpa [ChangeMaps.setBlock] using hw k hk⟩
 ·have:g≠k:=fun e=>hn c (by simp) (by rw [← e];exact hg)
  simp [ChangeMaps.setBlock,this]
 ·rcases hk with hk |⟨c0,h0,h1⟩
  ·exact absurd (hw k (by simp [hc])) (by omega)
  ·rw [h1] at hc
   cases hc
   exact .inl h0
theorem Qm (KL:NZ P kt kx) (ht:P.underlying t=some (.map kt et)) {x k y:Operand} (ho:o.op = .mapUpdate t x k y) {c:Nat} (hx:S.ev x=some (XV.sv (.map c))) (a:K) (v:V) (hk:S.ev k=some (.cv (tJ (kx a)))) (hv:S.ev y=some (.cv (tJ (vx v))))
  (hm:S.mem.get c=some (.abs (Bw kx vx l))):bT P S d o { v:=XV.val undef,upd:=[(c,.abs (Bw kx vx (jJ l a v)))],wr:=[c] } [c]:=by
 intro β ow w ac K' Q hw _ hops hr hK
 have h1:=hops x (by rw [ho];simp [Op.operands]) _ hx
 have h2:=hops k (by rw [ho];simp [Op.operands]) _ hk
 have h3:=hops y (by rw [ho];simp [Op.operands]) _ hv
 simp only [XV.rel,nD] at h2 h3
 simp only [XV.rel,CV.rel,SV.rel] at h1
 obtain ⟨n0,n1,hO,es,clock,hb,hs,hl⟩:=hr c (by simp) _ hm
 have hn:=Cw hs hl
 have hlt:=(Array.getElem?_eq_some_iff.1 hb).1
 have main:∃ es' clock',(Instr.mapUpdate t (.map (some (β c).blk)) (kx a) (vx v)).run P w = .ok () (ChangeMaps.setBlock w (β c).blk (.map es' clock'))∧Stamped es' clock'∧es'.toList.map (fun e=>(e.key,e.val))=(jJ l a v).map fun x=>(kx x.1,vx x.2):=by
  rcases KL.find w a es.toList (E8 hl) with ⟨g1,g2⟩ |⟨j,e,g1,g2,g3⟩
  ·refine ⟨es.push ⟨kx a,vx v,clock⟩,clock + 1,?_,stamped_push hs g2,?_⟩
   ·simp [Instr.mapUpdate,run_underlying ht,MapKept.run_getObj_map hb,KL.check w false a,g1,MapKept.run_setObj_map _ hb,Result.andThen,ChangeMaps.setBlock]
   ·rw [zL (E9 hl g2)]
    simp [hl]
  ·obtain ⟨v0,g4,g5⟩:=Fa KL.inj hl g2 g3
   have hj:es[j]? = some e:=by simpa using g2
   have hkeyf:∀ e',es[j]? = some e'→({ e' with key:=kx a,val:=vx v }:MapEntry).key=e'.key:=fun e' he'=>by rw [hj] at he';cases he';exact g3.symm
   have hlist:(es.modify j (fun e'=>{ e' with key:=kx a,val:=vx v })).toList=es.toList.set j { e with key:=kx a,val:=vx v }:=by rw [Array.toList_modify,ChangeMaps.modify_eq_set _ _ _ _ g2]
   refine ⟨es.modify j (fun e'=>{ e' with key:=kx a,val:=vx v }),clock,?_,stamped_modify hs _ _ (fun _ _=>rfl) (fun e' _ he'=>hkeyf e' he'),?_⟩
   ·simp [Instr.mapUpdate,run_underlying ht,MapKept.run_getObj_map hb,KL.check w false a,g1,hj,g3,KL.stays w a,MapKept.run_setObj_map _ hb,Result.andThen,ChangeMaps.setBlock]
   ·rw [hlist,O0 hn g4,List.map_set,List.map_set,hl]
 obtain ⟨es',clock',m1,m2,m3⟩:=main
 have hrun:(execOp ac.eval o).run P w = .ok .skip (ChangeMaps.setBlock w (β c).blk (.map es' clock')):=by
  simp [execOp,ho,h1,h2,h3,m1]
 refine upon_skip hrun (hK β ow _ undef (Eff.Y4 hw d c ((hO _).2 rfl) _) rfl (fun c' ch hc => ?_))
 simp only [Mem.get,aL] at hc
 by_cases hcc:c=c'
 ·subst hcc
  simp only [decide_true,cond_true,Option.some.injEq] at hc
  subst hc
  exact ⟨n0,n1,hO,es',clock',by simp [ChangeMaps.setBlock,hlt],m2,m3⟩
 ·simp [hcc] at hc
omit [DecidableEq K] in
theorem LP (kx:K→Value) (vx:V→Value) {t:TypeId} (ho:o.op = .makeMap t none):bT P S d o { v:=XV.sv (.map d),upd:=[(d,.abs (Bw kx vx ([]:List (K×V))))] } []:=by
 intro β ow w ac K' Q hw hfr _ _ hK
 have hrun:(execOp ac.eval o).run P w = .ok (.value (.map (some w.heap.size))) (w.alloc (.map #[] 0)):=by
  simp [execOp,ho]
  rfl
 refine upon_value hrun (hK _ _ _ _ (Eff.alloc hw d ⟨w.heap.size,0,0,false,fun _=>0⟩ _) (by simp [XV.rel,CV.rel,SV.rel,aX]) (fun c' ch hc => ?_))
 simp only [Mem.get,aL] at hc
 by_cases hcc:d=c'
 ·subst hcc
  simp only [decide_true,cond_true,Option.some.injEq] at hc
  subst hc
  refine ⟨by simp [aX],by simp [aX],?_,#[],0,?_,stamped_empty 0,rfl⟩
  ·intro k
   simp only [aX,if_true,gY]
   by_cases hk:k=w.heap.size
   ·simp [hk]
   ·simp only [hk,if_false,iff_false]
    exact hfr k
  ·simp only [aX,if_true]
   exact heap_alloc_new w _
 ·simp [hcc] at hc
omit [DecidableEq K] in
theorem OX (ht:P.underlying t=some (.map kt et)) {x:Operand} (ho:o.op = .call { callee := .builtin .len,args := #[x],argTypes := #[t] }) {c:Nat} (hx:S.ev x=some (XV.sv (.map c))) (hm:S.mem.get c=some (.abs (Bw kx vx l))):bT P S d o { v:=XV.int .i64 l.length } [c]:=by
 refine uI fun β ow w ac hw hops hr => ?_
 have h1:=hops x (by rw [ho];simp [Op.operands,Call.operands]) _ hx
 simp only [XV.rel,CV.rel,SV.rel] at h1
 obtain ⟨_,_,_,es,clock,hb,hs,hl⟩:=hr c (by simp) _ hm
 have hlen:es.size=l.length:=by
  have:=congrArg List.length hl
  simpa using this
 refine ⟨.int .i64 l.length,?_,rfl⟩
 simp [execOp,ho,resolve,invoke,builtin,Builtin.len_,run_underlying ht,h1,MapKept.run_getObj_map hb,goInt,hlen]
end
open Go.RowKit
def tT (f:Nat→List Value) (m:Nat) (news:List Value):Nat→List Value:=fun i=>bif Nat.blt i m then f i else news
theorem Uj {f:Nat→List Value} {sz m:Nat} {news rest:List Value} (hf:∀ i,i<m→(f i).length=sz) (hn:news.length=sz) {arr:Array Value} (ha:arr.toList=flat f m++news++rest) :
  ∀ i,i<m + 1→(tT f m news i).length=sz∧∀ j v,(tT f m news i)[j]? = some v→arr[i * sz + j]? = some v:=by
 have hl:=cZ hf
 intro i hi
 by_cases him:i<m
 ·have e:tT f m news i=f i:=by
   have hb:Nat.blt i m=true:=by simpa using him
   simp only [tT,hb,cond_true]
  rw [e]
  refine ⟨hf i him,fun j v hv => ?_⟩
  have hj:j<sz:=by rw [← hf i him];exact (List.getElem?_eq_some_iff.1 hv).1
  have hg:=flat_get hf him hj
  rw [hv] at hg
  have hlt:=(List.getElem?_eq_some_iff.1 hg).1
  rw [← Array.getElem?_toList,ha,List.append_assoc,List.getElem?_append_left hlt]
  exact hg
 ·have e:tT f m news i=news:=by
   have hb:Nat.blt i m=false:=by
    cases hb:Nat.blt i m with
    | false=>rfl
    | true=>exact absurd (by simpa using hb) him
   simp only [tT,hb,cond_false]
  have him':i=m:=by omega
  rw [e]
  refine ⟨hn,fun j v hv => ?_⟩
  have hj:j<news.length:=(List.getElem?_eq_some_iff.1 hv).1
  rw [him',← Array.getElem?_toList,ha,List.append_assoc,List.getElem?_append_right (by omega),hl]
  have e2:m * sz + j - m * sz=j:=by omega
  rw [e2,List.getElem?_append_left hj]
  exact hv
section
variable {P:Program} {T:aU} {S:St} {d:Nat} {o:Oper}
theorem vH (hT:bf P T) {s x:Operand} {t e:TypeId} {tds tde:pO} (ho:o.op = .call { callee := .builtin .append,args := #[s,x],argTypes := #[t,t] }) (htd:T t=some tds) (hds:tds.desc = .slice e) (hte:T e=some tde)
  {c m n cx nx':Nat} {e':TypeId} {f gx:Nat→List Value} (news:List Value) (hzl:Nat.beq tde.zero.length tde.size=true) (hs:S.ev s=some (XV.sv (.slc c tde.size 0 m))) (hm:S.mem.get c=some (.vec e tde.size n f)) (hmn:m≤n)
  (hx:S.ev x=some (XV.sv (.slc cx tde.size 0 1))) (hmx:S.mem.get cx=some (.vec e' tde.size (nx' + 1) gx)) (hcs:gx 0=news) (hnl:Nat.beq news.length tde.size=true) (h1:news.all (fun v=>v.oneCell')=true) (h63:m + 1≤maxLen) (hbytes:(m + 1) * tde.bytes≤140737488355328) :
  bT P S d o { v:=XV.sv (.slc d tde.size 0 (m + 1)),upd:=[(d,.vec e tde.size (m + 1) (tT f m news))],wr:=[c] } [c,cx]:=by
 have hzl:=Nat.eq_of_beq_eq_true hzl
 have hnl:=Nat.eq_of_beq_eq_true hnl
 have hne:news≠[]∨tde.size=0:=by
  rcases Nat.eq_zero_or_pos tde.size with h |h
  ·exact .inr h
  ·exact .inl (fun e=>by rw [e] at hnl;simp at hnl;omega)
 obtain ⟨ie,ue,g1,_,g3,g4,_,_,⟨z,g5,g6⟩,_⟩:=iF hT hte
 have hu:=dh hT htd hds
 have hzs:z.cells.size=tde.size:=by rw [← hzl,← g6];simp
 intro β ow w ac K' Q hw hfr hops hr hK
 have e1:=hops s (by rw [ho];simp [Op.operands,Call.operands]) _ hs
 have e2:=hops x (by rw [ho];simp [Op.operands,Call.operands]) _ hx
 have hv:=hr c (by simp) _ hm
 have hrx:=hr cx (by simp) _ hmx
 simp only [Holds] at hrx
 by_cases n0:(β cx).nil=true
 ·rw [if_pos n0] at hrx;omega
 rw [if_neg n0] at hrx
 obtain ⟨n1,n2,_,_,arrx,n3,_,n4⟩:=hrx
 simp only [XV.rel,CV.rel,SV.rel,if_neg n0] at e2
 obtain ⟨ax,e3,e4,e5⟩:=e2
 have hax:ax=⟨(β cx).blk,0,none⟩:=by rw [e5 (by omega)];simp [Loc.addr,n1]
 have hnews:∀ j v,news[j]? = some v→w.cell? (ax.add j)=some v:=by
  intro j v hj
  rw [hax,Addr.add_lit,cell_of_row w _ _ arrx e' _ n3,Nat.zero_add]
  rw [← hcs] at hj
  have:=(n4 0 (by omega)).2 j v hj
  simpa using this
 have hnl1:news.length=1 * ie.size:=by rw [g3,Nat.one_mul];exact hnl
 have hone:∀ u∈news,u.oneCell'=true:=fun u hu=>List.all_eq_true.1 h1 u hu
 -- a new block
 have grown:∀ (v0:Value) (old:Nat),ac.eval s=v0→(∀ i,i<m→(f i).length=tde.size)→(Builtin.append_ #[t,t] o.type #[v0,.slice (some ax) 1 ((β cx).cap - 0)]).run P w =
   .ok (.slice (some ⟨w.heap.size,0,none⟩) (m + 1) (grownCap w (m + 1) old e)) (w.drew.alloc (.cells ((flat f m).toArray++news.toArray++Builtin.zeroCells z.cells (grownCap w (m + 1) old e - (m + 1))) e))→o.wp P ac w K' Q:=by
  intro v0 old hv0 hfl hrun
  have hge:=grownCap_ge w (m + 1) old e
  have hcm:=grownCap_le_maxLen w (m + 1) old e h63
  let l:Loc:=⟨w.heap.size,0,grownCap w (m + 1) old e,false,fun _=>0⟩
  have hE:Eff β ow w (aX β d l) (gY (fun k=>if ow k=some c then none else ow k) w.heap.size (some d)) (w.drew.alloc (.cells ((flat f m).toArray++news.toArray++Builtin.zeroCells z.cells (grownCap w (m + 1) old e - (m + 1))) e)) [c] d:=by
   refine ⟨fun i hi=>by simp [aX,hi],rfl,rfl,rfl,by simp,fun k hk hn=>⟨Below.heap_alloc w.drew _ k hk,?_⟩,fun k hk i hi => ?_,fun k hk => ?_⟩
   ·have:ow k≠some c:=hn c (by simp)
    simp [gY,Nat.ne_of_lt hk,this]
   ·by_cases hks:k=w.heap.size
    ·simp only [gY,hks,if_true,Option.some.injEq] at hi;exact .inr hi.symm
    ·simp only [gY,if_neg hks] at hi
     split at hi
     ·cases hi
     ·rename_i hnc
      rcases hk with hk |⟨c0,h0,h2⟩
      ·have:=hw k (by simp [hi]);omega
      ·simp only [List.mem_singleton] at h0;subst h0;exact absurd h2 hnc
   ·by_cases hks:k=w.heap.size
    ·rw [hks];simp
    ·simp only [gY,if_neg hks] at hk
     split at hk
     ·exact absurd rfl hk
     ·have:=hw k hk;simp;omega
  refine upon_value (x := .slice (some ⟨w.heap.size,0,none⟩) (m + 1) (grownCap w (m + 1) old e)) ?_ (hK _ _ _ _ hE ?_ (fun c' ch hc => ?_))
  ·simp only [execOp,ho,resolve,invoke,builtin,Sem.run_bind,Sem.run_pure,Result.andThen_ok,List.map_toArray,List.map_cons,List.map_nil,hv0,e3,hrun]
  ·simp only [XV.rel,CV.rel,SV.rel,aX,if_true,l,Bool.false_eq_true,if_false]
   exact ⟨_,by rw [Nat.sub_zero],by omega,fun _=>by simp [Loc.addr]⟩
  ·simp only [Mem.get,aL] at hc
   by_cases hcc:d=c'
   ·subst hcc
    simp only [decide_true,cond_true,Option.some.injEq] at hc
    subst hc
    simp only [Holds,aX,if_true,l,Bool.false_eq_true,if_false]
    refine ⟨trivial,by simp [gY],hge,hcm,_,heap_alloc_new w.drew _,?_,?_⟩
    ·simp only [Array.size_append,List.size_toArray,size_zeroCells,hzs,cZ hfl,hnl]
     have:m * tde.size + tde.size=(m + 1) * tde.size:=by rw [Nat.add_mul,Nat.one_mul]
     rw [this,← Nat.add_mul]
     congr 1
     omega
    ·exact Uj hfl hnl (rest:=(Builtin.zeroCells z.cells (grownCap w (m + 1) old e - (m + 1))).toList) (by simp only [Array.toList_append])
   ·simp [hcc] at hc
 simp only [XV.rel,CV.rel,SV.rel] at e1
 simp only [Holds] at hv
 by_cases hnil:(β c).nil=true
 ·rw [if_pos hnil] at hv e1
  obtain ⟨e1,_,rfl⟩:=e1
  refine grown _ 0 e1 (fun i hi=>by omega) ?_
  have:=run_append_nil (P:=P) w t o.type e ie z hu g1 g5 ax 1 ((β cx).cap - 0) news hnl1 hnews (by omega) (by omega) (by rw [g4];simp only [Nat.zero_add] at hbytes;omega)
  simpa [flat] using this
 ·rw [if_neg hnil] at hv e1
  obtain ⟨a0,e1,e6,e7⟩:=e1
  obtain ⟨v1,v2,v3,v4,arr,v5,v6,v7⟩:=hv
  have hfl:∀ i,i<m→(f i).length=tde.size:=fun i hi=>(v7 i (by omega)).1
  have hsub:(β c).cap - 0=(β c).cap:=Nat.sub_zero _
  by_cases hroom:m + 1≤(β c).cap
  ·have ha0:a0=⟨(β c).blk,0,none⟩:=by rw [e7 (by omega)];simp [Loc.addr,v1]
   have hle:(m + 1) * tde.size≤(β c).cap * tde.size:=Nat.mul_le_mul_right _ hroom
   have hle':m * tde.size + tde.size≤arr.size:=by rw [v6];rw [Nat.add_mul,Nat.one_mul] at hle;exact hle
   have hrun:=run_append_room (P:=P) w t o.type e ie hu g1 (β c).blk m (β c).cap arr v5 ax 1 ((β cx).cap - 0) news hnl1 hnews hone hroom (by rw [g3,hnl];exact hle')
   rw [g3] at hrun
   have htake:arr.toList.take (m * tde.size)=flat f m:=by
    apply List.ext_getElem?
    intro q
    rw [List.getElem?_take]
    have hfll:=cZ hfl
    by_cases hq:q<m * tde.size
    ·rw [if_pos hq]
     have hpos:0<tde.size:=by
      rcases Nat.eq_zero_or_pos tde.size with h |h
      ·rw [h] at hq;omega
      ·exact h
     have hqd:q / tde.size<m:=Nat.div_lt_of_lt_mul (by rw [Nat.mul_comm];exact hq)
     have hqm:=Nat.mod_lt q hpos
     have hqe:q / tde.size * tde.size + q % tde.size=q:=by rw [Nat.mul_comm];exact Nat.div_add_mod q tde.size
     have hg:=flat_get hfl hqd hqm
     rw [hqe] at hg
     rw [hg]
     have hlt:q % tde.size<(f (q / tde.size)).length:=by rw [hfl _ hqd];exact hqm
     rw [List.getElem?_eq_getElem hlt]
     have:=(v7 (q / tde.size) (by omega)).2 (q % tde.size) _ (List.getElem?_eq_getElem hlt)
     rw [hqe] at this
     simpa using this
    ·rw [if_neg hq,List.getElem?_eq_none (by omega)]
   let l:Loc:=⟨(β c).blk,0,(β c).cap,false,fun _=>0⟩
   let rowv:Array Value:=(arr.toList.take (m * tde.size)++news++arr.toList.drop (m * tde.size + news.length)).toArray
   have hE:Eff β ow w (aX β d l) (fun k=>if ow k=some c then (if k=(β c).blk then some d else none) else ow k) (w.setRow (β c).blk rowv) [c] d:=by
    refine ⟨fun i hi=>by simp [aX,hi],rfl,rfl,rfl,by simp,fun k hk hn => ?_,fun k hk i hi => ?_,fun k hk => ?_⟩
    ·have hkc:ow k≠some c:=hn c (by simp)
     exact ⟨setRow_other w _ k _ (fun e=>hkc (by rw [e];exact v2)),by simp [hkc]⟩
    ·rcases hk with hk |⟨c0,h0,h2⟩
     ·have hn:ow k=none:=by
       cases ho:ow k with
       | none=>rfl
       | some y=>have:=hw k (by simp [ho]);omega
      simp [hn] at hi
     ·simp only [List.mem_singleton] at h0
      subst h0
      simp only [h2,if_true] at hi
      split at hi
      ·cases hi;exact .inr rfl
      ·cases hi
    ·simp only [setRow_size]
     refine hw k (fun e=>hk ?_)
     simp [e]
   refine upon_value (x := .slice (some ⟨(β c).blk,0,none⟩) (m + 1) (β c).cap) ?_ (hK _ _ _ _ hE ?_ (fun c' ch hc => ?_))
   ·simp only [execOp,ho,resolve,invoke,builtin,Sem.run_bind,Sem.run_pure,Result.andThen_ok,List.map_toArray,List.map_cons,List.map_nil,e1,e3,hsub]
    rw [ha0]
    simp only [hrun,Result.andThen_ok,rowv]
   ·simp only [XV.rel,CV.rel,SV.rel,aX,if_true,l,Bool.false_eq_true,if_false]
    exact ⟨_,by rw [Nat.sub_zero],by omega,fun _=>by simp [Loc.addr]⟩
   ·simp only [Mem.get,aL] at hc
    by_cases hcc:d=c'
    ·subst hcc
     simp only [decide_true,cond_true,Option.some.injEq] at hc
     subst hc
     simp only [Holds,aX,if_true,l,Bool.false_eq_true,if_false]
     refine ⟨trivial,by simp [v2],hroom,v4,rowv,setRow_heap w _ arr _ e _ v5,?_,?_⟩
     ·simp only [rowv,List.size_toArray,List.length_append,List.length_take,List.length_drop,Array.length_toList]
      omega
     ·exact Uj hfl hnl (rest:=arr.toList.drop (m * tde.size + news.length)) (by simp only [rowv,htake])
    ·simp [hcc] at hc
  ·refine grown _ (β c).cap e1 hfl ?_
   have holds:∀ j v,(flat f m)[j]? = some v→w.cell? (a0.add j)=some v:=by
    intro j v hj
    have hfll:=cZ hfl
    have hjl:=(List.getElem?_eq_some_iff.1 hj).1
    have hpos:0<tde.size:=by
     rcases Nat.eq_zero_or_pos tde.size with h |h
     ·rw [hfll,h] at hjl;omega
     ·exact h
    have hm0:0<m:=by
     rcases Nat.eq_zero_or_pos m with h |h
     ·rw [hfll,h] at hjl;omega
     ·exact h
    have ha0:a0=⟨(β c).blk,0,none⟩:=by rw [e7 (by omega)];simp [Loc.addr,v1]
    have hqd:j / tde.size<m:=Nat.div_lt_of_lt_mul (by rw [Nat.mul_comm,← hfll];exact hjl)
    have hqm:=Nat.mod_lt j hpos
    have hqe:j / tde.size * tde.size + j % tde.size=j:=by rw [Nat.mul_comm];exact Nat.div_add_mod j tde.size
    have hg:=flat_get hfl hqd hqm
    rw [hqe,hj] at hg
    have:=(v7 (j / tde.size) (by omega)).2 (j % tde.size) v hg.symm
    rw [hqe] at this
    rw [ha0,Addr.add_lit,cell_of_row w _ _ arr e _ v5,Nat.zero_add]
    simpa using this
   have:=run_append_grow (P:=P) w t o.type e ie z hu g1 g5 a0 m (β c).cap (flat f m) (by rw [g3];exact cZ hfl) holds ax 1 ((β cx).cap - 0) news hnl1 hnews (by omega) (by simp only [maxLen] at h63;omega) (growslice_fits (by omega) (by rw [g4];exact hbytes))
   rw [hsub]
   exact this
end
open Go.RowKit
theorem nS {P:Program} {T:aU} {f:FuncId} {fn:Func} {c:Code} (hT:bf P T) (hf:P.funcs[f]? = some fn) (hb:fn.body=some c) {A A':mQ} (Xl:List CV) (X:XV)
  (hXl:Xl.all (CV.ok fun _=>false)=true) (hX:X.ok (fun _=>false)=true) {M:Mem} {c0 d:Nat} (hM:M.get c0=some (.abs A)) (hd:Nat.beq d c0=false)
  (h:∀ C:Ctx,C.n0=1→av P C c ⟨fV fn.ntmps (.cv (.one (.ptr 0 0 0 0))::Xl.map .cv),[(0,.abs A)],1⟩ (Ends C T fn.results.toList 1 1 ⟨X,[(0,.abs A')],none⟩)) :
  aC P f (.one (.ptr c0 0 0 0)::Xl) M d { v:=X,upd:=[(c0,.abs A')],wr:=[c0] } [c0]:=by
 have hd':d≠c0:=by
  rw [aL] at hd
  simpa using hd
 have get1:∀ (k i:Nat) (x ch:Chunk),Mem.get [(k,x)] i=some ch→i=k∧ch=x:=by
  intro k i x ch h
  simp only [Mem.get,aL] at h
  by_cases hk:k=i
  ·simp only [hk,decide_true,cond_true,Option.some.injEq] at h;exact ⟨hk.symm,h.symm⟩
  ·simp [hk] at h
 refine fE (ids:=[c0]) (rids:=[]) (Xl := .one (.ptr 0 0 0 0)::Xl) (M0:=[(0,.abs A)]) (out:=⟨X,[(0,.abs A')],none⟩) hT hf hb (by simp) rfl rfl (k1:=1) (n0:=1) (by simpa using hd') ?_ (fun i ch hi => ?_) (fun i ch hi => ?_) (fun i ch hi=>by cases hi) ?_ h ?_ (XV.aM hX).symm rfl (fun c ch hc => ?_)
 ·simp only [List.all_cons,Bool.and_eq_true]
  refine ⟨by simp [CV.ok,SV.ok],?_⟩
  simp only [List.all_eq_true] at hXl ⊢
  exact fun s hs=>CV.aG (fun _ h=>by cases h) (hXl s hs)
 ·obtain ⟨rfl,rfl⟩:=get1 _ _ _ _ hi
  refine ⟨by simp,rfl,fun h=>by simp at h,fun ci hci => ?_⟩
  simp at hci
  subst hci
  exact hM
 ·obtain ⟨rfl,rfl⟩:=get1 _ _ _ _ hi
  exact ⟨rfl,rfl⟩
 ·exact XV.aG (fun _ h=>by cases h) hX
 ·simp only [List.map_cons,iB.aM hXl]
  rfl
 ·obtain ⟨rfl,rfl⟩:=get1 _ _ _ _ hc
  exact .inl ⟨0,rfl,rfl⟩
theorem Ends.shut {C:Ctx} {T:aU} {rs:List ResultVar} {X v:XV} {S:St} {e:Exit} {ids:List Nat} {M:Mem} {inv:Prop} (he:e = .normal∨e = .ret) (hE:aN C S (S.shut 0 ids M inv)) (hr:tK T (S.shut 0 ids M inv) rs=some v) (hv:v=X) :
  Ends C T rs 1 1 ⟨X,[(0,.abs (vB M inv))],none⟩ e S:=by
 refine ⟨he,_,hE,by rw [hr,hv],fun i ch h => ?_,fun i ch h=>by cases h⟩
 simp only [Mem.get,aL] at h
 by_cases hk:0=i
 ·subst hk
  simp only [decide_true,cond_true,Option.some.injEq] at h
  exact ⟨by omega,by rw [← h];rfl⟩
 ·simp [hk] at h
theorem aN.Ki {C:Ctx} {S:St} {i0 i1 i2:Nat} {M:Mem} {inv:Prop} {a0 a1 a2 b0 b1 b2:Chunk} (hids:(Nat.beq i0 i1 || Nat.beq i0 i2 || Nat.beq i1 i2)=false) (hinv:inv) (hM:LU 3 M=true) (g0:M.get 0=some a0) (g1:M.get 1=some a1) (g2:M.get 2=some a2)
  (k0:S.mem.get i0=some b0) (k1:S.mem.get i1=some b1) (k2:S.mem.get i2=some b2) (hc:b0.isCells=true) (l0:kZ b0 (a0.ren fun j=>(([i0,i1,i2]:List Nat)[j]?).getD 0)) (l1:kZ b1 (a1.ren fun j=>(([i0,i1,i2]:List Nat)[j]?).getD 0))
  (l2:kZ b2 (a2.ren fun j=>(([i0,i1,i2]:List Nat)[j]?).getD 0)):aN C S (S.shut i0 [i0,i1,i2] M inv):=by
 refine aN.shut ?_ rfl hinv ⟨b0,k0,hc⟩ hM (fun j i hj => ?_)
 ·simp only [Bool.or_eq_false_iff,aL,decide_eq_false_iff_not] at hids
  obtain ⟨⟨h1,h2⟩,h3⟩:=hids
  simp [h1,h2,h3]
 ·match j with
  | 0=>simp at hj;subst hj;exact ⟨a0,b0,g0,k0,l0⟩
  | 1=>simp at hj;subst hj;exact ⟨a1,b1,g1,k1,l1⟩
  | 2=>simp at hj;subst hj;exact ⟨a2,b2,g2,k2,l2⟩
  | j + 3=>simp at hj
def K4 (P:Program) (C:Ctx) (y:Code) (Q:Exit→St→Prop) (e:Exit) (S:St):Prop:=match e with |.normal=>av P C y S Q |e=>Q e S
theorem ak {P:Program} {C:Ctx} {y:Code} {S:St} {Q:Exit→St→Prop} (h:av P C y S Q):K4 P C y Q .normal S:=h
theorem aV {P:Program} {C:Ctx} {y:Code} {S:St} {Q:Exit→St→Prop} (h:Q .ret S):K4 P C y Q .ret S:=h
theorem bW {P:Program} {C:Ctx} {y:Code} {S:St} {Q:Exit→St→Prop} {n:Nat} (h:Q (.exit n) S):K4 P C y Q (.exit n) S:=h
theorem av.seq {P:Program} {C:Ctx} {x y:Code} {S:St} {Q:Exit→St→Prop} (h:av P C x S (K4 P C y Q)):av P C (.seq x y) S Q:=by
 intro a w hs
 refine wp_seq (wp_mono (h a w hs) ?_)
 rintro e a' w' ⟨S',h1,h2⟩
 cases e with
 | normal=>exact h2 a' w' h1
 | _=>exact ⟨S',h1,h2⟩
theorem av.cond {P:Program} {C:Ctx} {t:Operand} {x y:Code} {S:St} {Q:Exit→St→Prop} {b:Bool} (hb:S.ev t=some (XV.bool b)) (ht:b=true→av P C x S Q) (hf:b=false→av P C y S Q):av P C (.cond t x y) S Q:=by
 intro a w hs
 have hs':=hs
 obtain ⟨β,ow,h1,_⟩:=hs'
 have hv:=h1.ev hb
 simp only [XV.rel,CV.rel,SV.rel] at hv
 exact wp_cond_split hv (fun h=>ht h a w hs) (fun h=>hf h a w hs)
theorem av.skip {P:Program} {C:Ctx} {S:St} {Q:Exit→St→Prop} (h:Q .normal S):av P C .skip S Q:=fun _ _ hs=>wp_skip ⟨S,hs,h⟩
def takeC:Nat→Code→List Code
 | n + 1,.seq x y=>x::takeC n y
 | _,_=>[]
def IL:Nat→Code→Code
 | n + 1,.seq _ y=>IL n y
 | _,c=>c
theorem Kr (step:Step) {e:Exit} (he:e ≠ .normal) (S:St):∀ l:List Code,zZ step (l.map Fr.seq) e S=Tree.done e S
 | []=>rfl
 | _::r=>by
  have:=Kr step he S r
  cases e<;>first |exact absurd rfl he |exact this
theorem EP {P:Program} {C:Ctx} {T:aU} (hm:P.follows .mixedOrders=true) (hT:bf P T) {Q:Exit→St→Prop}:∀ (n:Nat) (c:Code) (S:St),
  kV P C (K4 P C (IL n c) Q) (zZ (pE T) ((takeC n c).map Fr.seq) .normal S)→av P C c S Q
 | 0,c,S,h=>by
  have e:takeC 0 c=[]:=by cases c<;>rfl
  have e2:IL 0 c=c:=by cases c<;>rfl
  rw [e,e2] at h
  exact h
 | n + 1,c,S,h=>by
  cases c with
  | seq x y =>
   intro a w hs
   refine wp_seq (wp_mono (je hm (zf hT) x S _ a w h hs) ?_)
   rintro e a' w' ⟨S',h1,h2⟩
   cases e with
   | normal=>exact EP hm hT n y S' h2 a' w' h1
   | _ =>
    rw [Kr _ (by simp)] at h2
    exact ⟨S',h1,h2⟩
  | _=>exact h
theorem av.cut {P:Program} {C:Ctx} {T:aU} {c:Code} {S:St} {Q:Exit→St→Prop} (n:Nat) (hm:P.follows .mixedOrders=true) (hT:bf P T)
  (h:nZ P C (K4 P C (IL n c) Q) (pE T) (Qr S fun S=>run (pE T) 4000 (.ex .normal S ((takeC n c).map Fr.seq)))):av P C c S Q:=by
 rw [tX] at h
 exact EP hm hT n c S (p9 4000 _ h)
theorem Kq {P:Program} {T:aU} {f:FuncId} {fn:Func} {c:Code} (hT:bf P T) (hf:P.funcs[f]? = some fn) (hb:fn.body=some c) {A':mQ} (Xl:List CV)
  (hXl:Xl.all (CV.ok fun _=>false)=true) {M:Mem} {d:Nat} (i:Nat)
  (h:∀ C:Ctx,C.n0=0→av P C c ⟨fV fn.ntmps (Xl.map .cv),[],0⟩ (Ends C T fn.results.toList 0 0 ⟨XV.sv (.ptr i 0 0 0),[],some (i,.abs A')⟩)) :
  aC P f Xl M d { v:=XV.sv (.ptr d 0 0 0),upd:=[(d,.abs A')] } []:=by
 refine fE (ids:=[]) (rids:=[]) (Xl:=Xl) (M0:=[]) (out:=⟨XV.sv (.ptr i 0 0 0),[],some (i,.abs A')⟩) (k1:=0) (n0:=0) hT hf hb (by simp) rfl rfl (by simp) ?_ (fun i ch hi=>by simp [Mem.get] at hi) (fun i ch hi=>by simp [Mem.get] at hi) (fun j ch hj => ?_) ?_ h (iB.aM hXl).symm ?_ rfl (fun c ch hc => ?_)
 ·simp only [List.all_eq_true] at hXl ⊢
  exact fun s hs=>CV.aG (fun _ h=>by cases h) (hXl s hs)
 ·cases hj;exact ⟨rfl,rfl⟩
 ·simp [XV.ok,CV.ok,SV.ok]
 ·simp [XV.ren,CV.ren,SV.ren,gX]
 ·simp only [Mem.get,aL] at hc
  by_cases hk:d=c
  ·simp only [hk,decide_true,cond_true,Option.some.injEq] at hc
   exact .inr ⟨hk.symm,i,by rw [hc]⟩
  ·simp [hk] at hc
theorem xC {P:Program} {C:Ctx} {Q:Exit→St→Prop} {step:Step} {o:Oper} {S:St} {d:Nat} {ops:Array Oper} {b:Nat} {draw:Bool} {l:List Oper} {i:Nat} {recs:List Rec} {stk:List Fr} {f:FuncId} {fn:Func} {args:Array Operand} {argTypes:Array TypeId} {Xs:List CV} {r:Bo} {rd:List Nat} {q:Prop} (ho:o.op = .call { callee := .value (.func f),args:=args,argTypes:=argTypes }) (hf:P.funcs[f]? = some fn) (hx:evs S args.toList=some Xs) (h:aC P f Xs S.mem d r rd) (hk:q) (hb:(!(fn.name == "runtime.NumGoroutine") && fn.body.isSome)=true:=by kernel_rfl) (e:q→nZ P C Q step (lay (run step 4000) ops b draw l i S recs stk o (b + i) none r rd):=by (intro h;(conv=>arg 5;whnf);(repeat (refine xS ?_;conv=>arg 5;whnf));exact h)):nZ P C Q step (.prim o S d ops b draw l i recs stk) :=
 wP r rd (UE ho (Ld hf hb) hx h) (e hk)
end Go.Sx
