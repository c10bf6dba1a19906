/- Parts SxX SxY SxZ. -/
import Derived.Test.YtnpkdoggfnlapaaGreatDoorG06
import Derived.Laws.AppendOwn
set_option linter.unusedSimpArgs false
set_option linter.unusedVariables false
namespace Go.Sx
open Go.RowKit
theorem Holds.XC {β:Nat→Loc} {ow ow':Nat→Option Nat} {w:World} {ρ:Nat→Nat} {j:Nat} {ch:Chunk} (ho:ch.fD=false→∀ k,ow' k=some j↔ow k=some (ρ j)) (hn:∀ k,ow k=none→ow' k=none) (h:Holds β ow w (ρ j) (ch.ren ρ)):Holds (fun i=>β (ρ i)) ow' w j ch:=by
 cases ch with
 | ro sz n f =>
  simp only [Chunk.ren,Holds] at h ⊢
  by_cases hn':(β (ρ j)).nil=true
  ·rw [if_pos hn'] at h ⊢;exact h
  ·rw [if_neg hn'] at h ⊢
   exact ⟨hn _ h.1,h.2⟩
 | ext A =>
  obtain ⟨O,h1,h2⟩:=h
  exact ⟨O,fun k hk=>⟨hn _ (h1 k hk).1,(h1 k hk).2⟩,h2⟩
 | _=>exact Holds.Uh rfl (ho rfl) h
def Pg (n0:Nat) (out:Out) (i:Nat):Bool:=Nat.blt i n0 || (match out.fr with |some (j,_)=>Nat.beq j i |none=>false)
theorem qU {P:Program} {T:aU} {f:FuncId} {fn:Func} {c:Code} (hT:bf P T) (hf:P.funcs[f]? = some fn) (hb:fn.body=some c)
  {Xl:List CV} {M0:Mem} {k1 n0:Nat} {ids rids:List Nat} {d:Nat} {M:Mem} {out:Out} (hids:ids.Nodup) (hk1:ids.length=k1) (hn0:k1 + rids.length=n0) (hd:d ∉ ids++rids)
  (hXl:Xl.all (CV.ok fun i=>Nat.blt i n0)=true) (hM0:∀ i ch,M0.get i=some ch→i<n0∧ch.ok (fun j=>Nat.blt j n0)=true∧(k1≤i→ch.fD=true)∧∀ ci,(ids++rids)[i]? = some ci→M.get ci=some (ch.ren fun i=>((ids++rids)[i]?).getD d))
  (hup:∀ i ch,Mem.get out.upd i=some ch→ch.ok (Pg n0 out)=true∧ch.fD=false) (hfr:∀ i ch,out.fr=some (i,ch)→ch.ok (Pg n0 out)=true∧ch.fD=false)
  (hv:out.v.ok (fun i=>Nat.blt i n0 || (match out.fr with |some (j,_)=>Nat.beq j i |none=>false))=true)
  (h:∀ C:Ctx,C.n0=n0→av P C c ⟨fV fn.ntmps (Xl.map .cv),M0,n0⟩ (Ends C T fn.results.toList k1 n0 out))
  {Xs:List CV} (hXs:Xs=Xl.map (CV.ren fun i=>((ids++rids)[i]?).getD d)) {r:Bo} (hrv:r.v=out.v.ren (gX (ids++rids) d out.fr)) (hwr:r.wr=ids)
  (hru:∀ c ch,Mem.get r.upd c=some ch→∃ ch0,ch=ch0.ren (gX (ids++rids) d out.fr)∧((∃ i,ids[i]? = some c∧Mem.get out.upd i=some ch0)∨(c=d∧∃ i,out.fr=some (i,ch0)))):aC P f Xs M d r (ids++rids):=by
 intro β ow w vs hw hfresh hvs hr
 subst hXs
 let ρ:Nat→Nat:=fun i=>((ids++rids)[i]?).getD d
 let βl:Nat→Loc:=fun i=>β (ρ i)
 let owl:Nat→Option Nat:=fun k=>(ow k).bind fun c=>lidx c ids
 have hargs:iB βl Xl vs:=(iB.ren Xl vs).1 hvs
 have hdi:d ∉ ids:=fun h=>hd (List.mem_append_left _ h)
 have hwl:WF owl w:=fun k hk=>hw k (fun e=>hk (by simp [owl,e]))
 have hown:∀ k i,owl k=some i↔∃ ci,ids[i]? = some ci∧ow k=some ci:=by
  intro k i
  constructor
  ·intro hk
   cases ho:ow k with
   | none=>simp [owl,ho] at hk
   | some ci=>exact ⟨ci,fM (by simpa [owl,ho] using hk),rfl⟩
  ·rintro ⟨ci,h1,h2⟩
   simp only [owl,h2,Option.bind_some]
   exact cB hids h1
 have hownlt:∀ k i,owl k=some i→i<k1:=by
  intro k i hk
  obtain ⟨ci,e1,_⟩:=(hown k i).1 hk
  rw [← hk1]
  exact (List.getElem?_eq_some_iff.1 e1).1
 let C:Ctx:={ w0:=w,own0:=fun k=>owl k≠none,β0:=βl,n0:=n0 }
 have hheld:∀ i ch,M0.get i=some ch→Holds βl owl w i ch:=by
  intro i ch hi
  obtain ⟨h1,h2,h4,h3⟩:=hM0 i ch hi
  have hil:i<(ids++rids).length:=by rw [List.length_append];omega
  have hci:(ids++rids)[i]? = some (ids++rids)[i]:=List.getElem?_eq_getElem hil
  have hm:=hr (ids++rids)[i] (List.getElem_mem hil) _ (h3 _ hci)
  have hρi:ρ i=(ids++rids)[i]:=by simp [ρ,hci]
  rw [← hρi] at hm
  refine Holds.XC (β:=β) (ow:=ow) (ρ:=ρ) (fun hro k => ?_) (fun k hk=>by simp [owl,hk]) hm
  rw [hρi]
  have hik:i<k1:=by
   rcases Nat.lt_or_ge i k1 with h' |h'
   ·exact h'
   ·rw [h4 h'] at hro;cases hro
  have hci':ids[i]? = some (ids++rids)[i]:=by rw [← hci,List.getElem?_append_left (by omega)]
  rw [hown]
  constructor
  ·rintro ⟨ci,e1,e2⟩;rw [hci'] at e1;cases e1;exact e2
  ·intro e;exact ⟨_,hci',e⟩
 have hlenv:vs.length=Xl.length:=by
  have:∀ (a:List CV) (b:List Value),iB βl a b→b.length=a.length:=by
   intro a
   induction a with
   | nil=>intro b hb;cases hb;rfl
   | cons x r ih=>rintro b ⟨v,r',rfl,_,h2⟩;simp [ih r' h2]
  exact this _ _ hargs
 have hsat:iZ C ⟨fV fn.ntmps (Xl.map .cv),M0,n0⟩ { tmps:=vs.toArray++Array.replicate (fn.ntmps - vs.toArray.size) undef,defers:=[] } w:=by
  have look:∀ (a:List CV) (b:List Value) (m:Nat),iB βl a b→∀ t X,dD (a.map (fun c=>some (XV.cv c))++List.replicate m none) t=some X→∃ v,b[t]? = some v∧X.rel βl v∧∃ c∈a,X = .cv c:=by
   intro a
   induction a with
   | nil =>
    intro b m _ t X hX
    exfalso
    have:∀ m t,dD (List.replicate m none) t=none:=by
     intro m
     induction m with
     | zero=>intro t;rfl
     | succ m ih=>intro t;cases t<;>simp [List.replicate_succ,dD,ih]
    simp [this] at hX
   | cons x r ih =>
    rintro b m ⟨v,r',rfl,h1,h2⟩ t X hX
    cases t with
    | zero=>simp only [List.map_cons,List.cons_append,dD,Option.some.injEq] at hX;subst hX;exact ⟨v,rfl,h1,x,by simp,rfl⟩
    | succ t =>
     simp only [List.map_cons,List.cons_append,dD] at hX
     obtain ⟨v',e1,e2,c,e3,e4⟩:=ih r' m h2 t X hX
     exact ⟨v',by simpa using e1,e2,c,by simp [e3],e4⟩
  have hsl:fV fn.ntmps (Xl.map .cv)=Xl.map (fun c=>some (XV.cv c))++List.replicate (fn.ntmps - Xl.length) none:=by simp [fV]
  refine ⟨βl,owl,⟨rfl,?_,?_,hheld,hwl⟩,⟨?_,?_⟩,⟨rfl,rfl,rfl,Nat.le_refl _,fun k _ hk=>⟨rfl,by simpa [C] using hk⟩,fun _ _=>rfl⟩,Nat.le_refl _,?_⟩
  ·simp [hsl,hlenv]
  ·intro t X hX
   rw [hsl] at hX
   obtain ⟨v,e1,e2,_⟩:=look Xl vs _ hargs t X hX
   have:(vs.toArray++Array.replicate (fn.ntmps - vs.toArray.size) undef).getD t undef=v:=by
    have hlt:t<vs.length:=(List.getElem?_eq_some_iff.1 e1).1
    rw [Array.getD_eq_getD_getElem?,Array.getElem?_append_left (by simpa using hlt)]
    simp [e1]
   rw [this];exact e2
  ·intro t X hX
   rw [hsl] at hX
   obtain ⟨v,_,_,cv,e3,rfl⟩:=look Xl vs _ hargs t X hX
   exact List.all_eq_true.1 hXl cv e3
  ·intro i ch hi
   obtain ⟨h1,h2,_⟩:=hM0 i ch hi
   exact ⟨by simpa using h1,h2⟩
  ·intro k i hk
   have:=hownlt k i hk
   simp only [Nat.blt_eq];omega
 refine calls_of_wp hf hb (wp_mono (h C rfl _ w hsat) ?_)
 rintro e a w' ⟨S',hs',he⟩
 obtain ⟨hex,S2,hent,hres,hupd,hfre⟩:=he
 obtain ⟨β1,ow1,g1,g2,g3,g4,g5⟩:=hent a w' hs'
 obtain ⟨x,hx,hrel⟩:=NT hT g1 hres
 have hg:a.defers=[]:=g1.defers
 have key:∃ v β' ow',Ending.returned x = .returned v∧Eff β ow w β' ow' w' r.wr d∧r.v.rel β' v∧∀ c ch,Mem.get r.upd c=some ch→Holds β' ow' w' c ch:=by
  let jf:Nat:=match out.fr with |some (i,_)=>i |none=>n0
  let β':Nat→Loc:=aX β d (β1 jf)
  -- who owns what,in the caller's numbers
  let ow':Nat→Option Nat:=fun k =>
   match ow1 k with
   | some i=>if i<k1 then ids[i]? else (match out.fr with |some (j,_)=>if i=j then some d else none |none=>none)
   | none=>if k<w.heap.size∧owl k=none then ow k else none
  have hβl:∀ i,i<n0→β1 i=β (ρ i):=fun i hi=>g3.beta i hi
  have hfn:∀ i ch,out.fr=some (i,ch)→n0≤i:=fun i ch hi=>(hfre i ch hi).1
  have hmem:∀ i,i<n0→∃ ci,(ids++rids)[i]? = some ci∧ci∈ids++rids:=fun i hi=>by
   have hil:i<(ids++rids).length:=by rw [List.length_append];omega
   exact ⟨(ids++rids)[i],List.getElem?_eq_getElem hil,List.getElem_mem hil⟩
  have hold:∀ k,k<w.heap.size→(∀ c∈ids,ow k≠some c)→w'.heap[k]? = w.heap[k]?∧ow' k=ow k:=by
   intro k hk hne
   have hno:owl k=none:=by
    cases ho:owl k with
    | none=>rfl
    | some i =>
     obtain ⟨ci,e1,e2⟩:=(hown k i).1 ho
     exact absurd e2 (hne ci (List.mem_of_getElem? e1))
   obtain ⟨e1,e2⟩:=g3.keep k hk (by simp [C,hno])
   exact ⟨e1,by simp [ow',e2,hk,hno]⟩
  have hβd:∀ c,c≠d→β' c=β c:=fun c hc=>by simp [β',aX,hc]
  refine ⟨x,β',ow',rfl,⟨hβd,g3.os,g3.tape,g3.output,g3.size,?_,?_,?_⟩,?_,?_⟩
  ·intro k hk hne;rw [hwr] at hne;exact hold k hk hne
  ·intro k hk c0 hc
   rw [hwr]
   rw [hwr] at hk
   simp only [ow'] at hc
   cases ho:ow1 k with
   | some i =>
    simp only [ho] at hc
    by_cases hi:i<k1
    ·rw [if_pos hi] at hc
     exact .inl (List.mem_of_getElem? hc)
    ·rw [if_neg hi] at hc
     split at hc
     ·split at hc
      ·cases hc;exact .inr rfl
      ·cases hc
     ·cases hc
   | none =>
    simp only [ho] at hc
    split at hc
    ·rename_i hcond
     rcases hk with hk |⟨c1,h1,h2⟩
     ·omega
     ·exfalso
      have hidx:∃ i,ids[i]? = some c1:=List.getElem?_of_mem h1
      obtain ⟨i,hi⟩:=hidx
      have:=(hown k i).2 ⟨c1,hi,h2⟩
      rw [hcond.2] at this;cases this
    ·cases hc
  ·intro k hk
   simp only [ow'] at hk
   cases ho:ow1 k with
   | some i=>exact g1.wf k (by simp [ho])
   | none =>
    simp only [ho] at hk
    split at hk
    ·rename_i hcond
     exact Nat.lt_of_lt_of_le hcond.1 g3.size
    ·exact absurd rfl hk
  ·rw [hrv,XV.jA]
   refine XV.aW (p:=fun i=>Nat.blt i n0 || (match out.fr with |some (j,_)=>Nat.beq j i |none=>false)) (fun i hi => ?_) hv hrel
   simp only [Bool.or_eq_true,Nat.blt_eq] at hi
   rcases hi with hi |hi
   ·obtain ⟨ci,e1,e2⟩:=hmem i hi
    have hr:gX (ids++rids) d out.fr i=ci:=by
     unfold gX
     split
     ·rename_i j ch hj
      have:=hfn j ch hj
      rw [if_neg (by omega),e1];rfl
     ·rw [e1];rfl
    rw [hr,hβd ci (fun e=>hd (e▸e2)),hβl i hi]
    simp [ρ,e1]
   ·cases hfo:out.fr with
    | none=>simp [hfo] at hi
    | some y =>
     obtain ⟨j,ch⟩:=y
     simp only [hfo,aL,decide_eq_true_eq] at hi
     subst hi
     simp [gX,β',aX,jf,hfo]
  ·intro c0 ch hc
   have hout:∀ j,Pg n0 out j=true→β' (gX (ids++rids) d out.fr j)=β1 j:=by
    intro j hj
    simp only [Pg,Bool.or_eq_true,Nat.blt_eq] at hj
    rcases hj with hj |hj
    ·obtain ⟨ci,e1,e2⟩:=hmem j hj
     have hr:gX (ids++rids) d out.fr j=ci:=by
      unfold gX
      split
      ·rename_i j' ch' hj'
       have:=hfn j' ch' hj'
       rw [if_neg (by omega),e1];rfl
      ·rw [e1];rfl
     rw [hr,hβd ci (fun e=>hd (e▸e2)),hβl j hj]
     simp [ρ,e1]
    ·cases hfo:out.fr with
     | none=>simp [hfo] at hj
     | some y =>
      obtain ⟨j',ch'⟩:=y
      simp only [hfo,aL,decide_eq_true_eq] at hj
      subst hj
      simp [gX,β',aX,jf,hfo]
   obtain ⟨ch0,rfl,hru'⟩:=hru c0 ch hc
   rcases hru' with ⟨i,e1,e2⟩ |⟨rfl,i,e2⟩
   ·obtain ⟨h1,h2⟩:=hupd i ch0 e2
    have e1':(ids++rids)[i]? = some c0:=by rw [List.getElem?_append_left (by omega)];exact e1
    have hm':c0∈ids:=List.mem_of_getElem? e1
    have hloc:β' c0=β1 i:=by
     rw [hβd c0 (fun e=>hdi (e▸hm')),hβl i (by omega)]
     simp [ρ,e1']
    refine Holds.trans (β:=β1) (ow:=ow1) (w:=w') (c:=i) (p:=Pg n0 out) (hup i ch0 e2).1 hout (by rw [hloc]) (by rw [hloc]) (by rw [hloc]) (.inl ⟨by rw [hloc],by rw [hloc]⟩) (hup i ch0 e2).2 (fun k => ?_) (fun _ _=>rfl) (g1.mem i ch0 h2)
    ·simp only [ow']
     constructor
     ·intro hk
      cases ho:ow1 k with
      | some i' =>
       simp only [ho] at hk
       by_cases hi':i'<k1
       ·rw [if_pos hi'] at hk
        have:=cB hids hk
        rw [cB hids e1] at this
        cases this;rfl
       ·rw [if_neg hi'] at hk
        split at hk
        ·split at hk
         ·cases hk;exact absurd (List.mem_of_getElem? e1) hdi
         ·cases hk
        ·cases hk
      | none =>
       simp only [ho] at hk
       split at hk
       ·rename_i hcond
        have:=(hown k i).2 ⟨c0,e1,hk⟩
        rw [hcond.2] at this;cases this
       ·cases hk
     ·intro hk
      rw [hk]
      simp only [if_pos h1,e1]
   ·obtain ⟨h1,h2⟩:=hfre i ch0 e2
    have hloc:β' c0=β1 i:=by simp [β',aX,jf,e2]
    refine Holds.trans (β:=β1) (ow:=ow1) (w:=w') (c:=i) (p:=Pg n0 out) (hfr i ch0 e2).1 hout (by rw [hloc]) (by rw [hloc]) (by rw [hloc]) (.inl ⟨by rw [hloc],by rw [hloc]⟩) (hfr i ch0 e2).2 (fun k => ?_) (fun _ _=>rfl) (g1.mem i ch0 h2)
    simp only [ow']
    constructor
    ·intro hk
     cases ho:ow1 k with
     | some i' =>
      simp only [ho] at hk
      by_cases hi':i'<k1
      ·rw [if_pos hi'] at hk
       exact absurd (List.mem_of_getElem? hk) hdi
      ·rw [if_neg hi',e2] at hk
       simp only at hk
       split at hk
       ·rename_i he;rw [he]
       ·cases hk
     | none =>
      simp only [ho] at hk
      split at hk
      ·exact absurd hk (hfresh k)
      ·cases hk
    ·intro hk
     rw [hk]
     have:¬ i<k1:=by omega
     simp only [if_neg this,e2,if_true]
 rcases hex with rfl |rfl
 ·exact ⟨hg,x,hx,key⟩
 ·exact ⟨hg,x,hx,key⟩
theorem DF {P:Program} {T:aU} {f:FuncId} {fn:Func} {c:Code} (hT:bf P T) (hf:P.funcs[f]? = some fn) (hb:fn.body=some c) (Xl:List CV) (X:XV)
  (hXl:Xl.all (CV.ok fun _=>false)=true) (hX:X.ok (fun _=>false)=true)
  (h:∀ C:Ctx,C.n0=0→av P C c ⟨fV fn.ntmps (Xl.map .cv),[],0⟩ (Ends C T fn.results.toList 0 0 ⟨X,[],none⟩)) (M:Mem) (d:Nat):aC P f Xl M d { v:=X } []:=by
 refine fE (ids:=[]) (rids:=[]) (M0:=[]) (k1:=0) (n0:=0) (out:=⟨X,[],none⟩) hT hf hb (by simp) rfl rfl (by simp) ?_ (fun i ch h=>by simp [Mem.get] at h) (fun i ch h=>by simp [Mem.get] at h) (fun i ch h=>by cases h) ?_ h (iB.aM hXl).symm (XV.aM hX).symm rfl (fun c ch h=>by simp [Mem.get] at h)
 ·simp only [List.all_eq_true] at hXl ⊢
  exact fun s hs=>CV.aG (fun _ h=>by cases h) (hXl s hs)
 ·exact XV.aG (fun _ h=>by cases h) hX
open Go.RowKit
structure Ie (P:Program) (t:TypeId) {K:Type} [DecidableEq K] (kx:K→Value):Prop where
 agg:∀ a,∃ cs,kx a = .agg cs
 noGuard:P.eqGuardType P.depth t=false
 eq:∀ (w:World) (a b:K),(Op.equal t (kx a) (kx b)).run P w = .ok (decide (a=b)) w
theorem Ie.of {P:Program} {t:TypeId} {K:Type} [DecidableEq K] {kx:K→Value} {m:Nat} (L:WideMaps.KeyLaw P t) (hm:m≤10000) (hk:P.keyTypeAt m t=true) (hwide:(match P.underlying t with |some (.array _ _) |some (.struct _)=>true |_=>false)=true)
  (hkey:∀ a,∃ l,keyOf P t (kx a)=some l) (hi:∀ a b,kx a=kx b→a=b) (hg:P.eqGuardType P.depth t=false) (ha:∀ a,∃ cs,kx a = .agg cs):Ie P t kx where
 agg:=ha
 noGuard:=hg
 eq w a b:=by
  obtain ⟨la,h1⟩:=hkey a
  obtain ⟨lb,h2⟩:=hkey b
  obtain ⟨r,h3,h4⟩:=run_equal_deep w hm hk hwide h1 h2
  rw [h3]
  congr 1
  by_cases e:a=b
  ·subst e
   rw [h1] at h2
   cases h2
   simp [h4.2 rfl]
  ·have:la≠lb:=fun e'=>e (hi _ _ (L.inj h1 (e'▸h2)))
   have hr:r≠true:=fun h=>this (h4.1 h)
   simp [e,hr]
section
variable {P:Program} {S:St} {d:Nat} {o:Oper} {K:Type} [DecidableEq K] {kx:K→Value} {t:TypeId}
theorem uW (E:Ie P t kx) {x y:Operand} {yt:TypeId} (ho:o.op = .binOp .eql t x y yt) (a b:K) (hx:S.ev x=some (.cv (tJ (kx a)))) (hy:S.ev y=some (.cv (tJ (kx b)))):bT P S d o { v:=XV.bool (decide (a=b)) } []:=by
 refine dw fun β w ac hops=>⟨.bool (decide (a=b)),?_,rfl⟩
 have h1:=hops x (by rw [ho];simp [Op.operands]) _ hx
 have h2:=hops y (by rw [ho];simp [Op.operands]) _ hy
 simp only [XV.rel,nD] at h1 h2
 have he:=E.eq w a b
 obtain ⟨ca,ea⟩:=E.agg a
 obtain ⟨cb,eb⟩:=E.agg b
 simp only [execOp,ho,h1,h2]
 rw [ea,eb] at he ⊢
 simp [eqGuard,run_program,E.noGuard,binOp,he]
theorem o7 (E:Ie P t kx) {x y:Operand} {yt:TypeId} (ho:o.op = .binOp .neq t x y yt) (a b:K) (hx:S.ev x=some (.cv (tJ (kx a)))) (hy:S.ev y=some (.cv (tJ (kx b)))):bT P S d o { v:=XV.bool (!decide (a=b)) } []:=by
 refine dw fun β w ac hops=>⟨.bool (!decide (a=b)),?_,rfl⟩
 have h1:=hops x (by rw [ho];simp [Op.operands]) _ hx
 have h2:=hops y (by rw [ho];simp [Op.operands]) _ hy
 simp only [XV.rel,nD] at h1 h2
 have he:=E.eq w a b
 obtain ⟨ca,ea⟩:=E.agg a
 obtain ⟨cb,eb⟩:=E.agg b
 simp only [execOp,ho,h1,h2]
 rw [ea,eb] at he ⊢
 simp [eqGuard,run_program,E.noGuard,binOp,he]
theorem Fits.split:∀ {a b:List Kd} {vs:List Value},Fits (a++b) vs→Fits a (vs.take a.length)∧Fits b (vs.drop a.length)
 | [],_,_,h=>⟨by simp [Fits],h⟩
 | _::_,_,_,h=>by
  obtain ⟨v,r,rfl,h1,h2⟩:=h
  obtain ⟨h3,h4⟩:=Fits.split h2
  exact ⟨⟨v,_,rfl,h1,h3⟩,h4⟩
theorem yg {T:aU} {kf:TypeId→Option (List Kd)} {cs:List Value}:∀ (fs:List (TypeId×Nat)) (acc:Nat) (l:List Kd),vX T kf fs acc=some l→Fits l ((cs.drop acc).take l.length) →
  ∀ f∈fs,∃ td ks,T f.1=some td∧kf f.1=some ks∧ks.length=td.size∧Fits ks ((cs.drop f.2).take td.size)
 | [],_,_,_,_,f,hf=>by cases hf
 | (t,off)::r,acc,l,h,hfit,f,hf=>by
  simp only [vX] at h
  split at h
  ·rename_i td ks h1 h2
   cases hb:(Nat.beq off acc && Nat.beq ks.length td.size) with
   | false=>simp [hb] at h
   | true =>
    simp only [hb,cond_true] at h
    simp only [Bool.and_eq_true,aL,decide_eq_true_eq] at hb
    obtain ⟨rfl,b2⟩:=hb
    split at h
    ·rename_i l' h3
     cases h
     rw [List.length_append,List.take_add,List.drop_drop] at hfit
     obtain ⟨f1,f2⟩:=hfit.split
     have hlen:((cs.drop off).take ks.length).length=ks.length:=by
      have:=f1.length
      rcases Nat.lt_or_ge ((cs.drop off).take ks.length).length ks.length with hlt |hge
      ·-- then nothing stands behind
       have hd:cs.length<off + ks.length∨cs.length≤off:=by
        rw [List.length_take,List.length_drop] at hlt
        omega
       have hnil:cs.drop (off + ks.length)=[]:=List.drop_eq_nil_of_le (by omega)
       rw [hnil,List.take_nil,List.append_nil,List.length_take] at this
       omega
      ·have:=List.length_take_le ks.length (cs.drop off)
       omega
     rw [List.take_append_of_le_length (by omega),List.take_take,Nat.min_self] at f1
     rw [List.drop_append_of_le_length (by omega),List.drop_eq_nil_of_le (by omega),List.nil_append] at f2
     rcases List.mem_cons.1 hf with rfl |hf'
     ·exact ⟨td,ks,h1,h2,b2,by rw [← b2];exact f1⟩
     ·exact yg r (off + ks.length) l' h3 f2 f hf'
    ·cases h
  ·cases h
theorem EC {ks:List Kd} {cs:List Value}:∀ (n:Nat),Fits ((List.replicate n ks).flatten) (cs.take (n * ks.length))→n * ks.length≤cs.length→∀ i,i<n→Fits ks ((cs.drop (i * ks.length)).take ks.length)
 | 0,_,_,i,hi=>by omega
 | n + 1,h,hl,i,hi=>by
  rw [Nat.add_mul,Nat.one_mul] at hl
  rw [List.replicate_succ',List.flatten_append,Nat.add_mul,Nat.one_mul,List.take_add] at h
  simp only [List.flatten_cons,List.flatten_nil,List.append_nil] at h
  obtain ⟨h1,h2⟩:=h.split
  have hfl:((List.replicate n ks).flatten).length=n * ks.length:=by simp
  have htl:(cs.take (n * ks.length)).length=n * ks.length:=by rw [List.length_take];omega
  rw [hfl,List.take_append_of_le_length (by omega),List.take_take,Nat.min_self] at h1
  rw [hfl,List.drop_append_of_le_length (by omega),List.drop_eq_nil_of_le (by omega),List.nil_append] at h2
  by_cases hin:i<n
  ·exact EC n h1 (by omega) i hin
  ·have:i=n:=by omega
   rw [this];exact h2
theorem Cv {α β:Type} {g:α→Option β}:∀ {l:List α},(∀ x∈l,∃ y,g x=some y)→∃ ys,l.mapM g=some ys
 | [],_=>⟨[],rfl⟩
 | x::r,h=>by
  obtain ⟨y,hy⟩:=h x (by simp)
  obtain ⟨ys,hys⟩:=Cv (l:=r) (fun z hz=>h z (by simp [hz]))
  exact ⟨y::ys,by simp [List.mapM_cons,hy,hys]⟩
theorem qF {P:Program} {T:aU} (hT:bf P T) (n:Nat):∀ (f:Nat) (t:TypeId) (ks:List Kd) (cs:List Value),lF T f t=some ks→P.keyTypeAt f t=true→Fits ks cs→∃ ls,P.keyLits (n + f) t cs=some ls
 | 0,_,_,_,h,_,_=>by simp [lF] at h
 | f + 1,t,ks,cs,h,hk,hfit=>by
  have hlen:=hfit.length
  have hns:n + (f + 1)=(n + f) + 1:=by omega
  rw [hns]
  simp only [lF] at h
  split at h
  ·rename_i k h1
   cases h
   have hu:=Ae hT h1 rfl
   obtain ⟨v,r,rfl,⟨m,rfl,hw⟩,rfl⟩:=hfit
   exact ⟨[.int k m],by simp [Program.keyLits,hu,hw]⟩
  ·rename_i h1
   cases h
   obtain ⟨u,hu,hd⟩:=fK hT h1
   cases u<;>simp [jW] at hd
   obtain ⟨v,r,rfl,⟨b,rfl⟩,rfl⟩:=hfit
   exact ⟨[.bool b],by simp [Program.keyLits,hu]⟩
  ·rename_i size bytes agg z fs h1
   split at h
   ·rename_i l h2
    cases hb:Nat.beq l.length size with
    | false=>simp [hb] at h
    | true =>
     simp only [hb,cond_true,Option.some.injEq] at h
     subst h
     obtain ⟨fl,hu,hfl⟩:=nu hT h1 rfl
     have hsz:l.length=P.cellsOf t:=by rw [iJ hT h1];exact Nat.eq_of_beq_eq_true hb
     simp only [Program.keyTypeAt,hu,Bool.and_eq_true] at hk
     have hall:=Array.all_eq_true_iff_forall_mem.1 hk.1.1
     have hfields:=yg (cs:=cs) fs 0 l h2 (by rw [List.drop_zero,← hlen,List.take_length];exact hfit)
     obtain ⟨ys,hys⟩:=Cv (l:=fl.toList) (g:=fun fd:Field=>P.keyLits (n + f) fd.type ((cs.drop fd.offset).take (P.cellsOf fd.type))) (fun fd hfd=>by
      obtain ⟨td,ks',e1,e2,e3,e4⟩:=hfields (fd.type,fd.offset) (by rw [← hfl];exact List.mem_map.2 ⟨fd,hfd,rfl⟩)
      have hkd:=hall fd (Array.mem_toList_iff.1 hfd)
      simp only [Bool.and_eq_true] at hkd
      rw [iJ hT e1]
      exact qF hT n f fd.type ks' _ e2 hkd.2 e4)
     have hnames:fl.all (fun x=>x.name != "_")=true:=Array.all_eq_true_iff_forall_mem.2 fun fd hfd=>by
      have:=hall fd hfd
      simp only [Bool.and_eq_true] at this
      exact this.1
     exact ⟨ys.flatten,by
      unfold Program.keyLits
      rw [hu]
      simp only
      rw [if_pos ⟨by rw [hlen,hsz],hnames⟩,hys]
      rfl⟩
   ·cases h
  ·rename_i size bytes agg z m e h1
   split at h
   ·rename_i te ks' h2 h3
    cases hb:(Nat.beq ks'.length te.size && Nat.beq (m * ks'.length) size) with
    | false=>simp [hb] at h
    | true =>
     simp only [hb,cond_true,Option.some.injEq] at h
     subst h
     simp only [Bool.and_eq_true,aL,decide_eq_true_eq] at hb
     obtain ⟨b1,b2⟩:=hb
     have hu:=iA hT h1 rfl
     have hc:P.cellsOf e=ks'.length:=by rw [iJ hT h2,b1]
     have hfl:((List.replicate m ks').flatten).length=m * ks'.length:=by simp
     have hcl:cs.length=m * ks'.length:=by rw [hlen,hfl]
     have hsz:cs.length=P.cellsOf t:=by rw [iJ hT h1,hcl,b2]
     simp only [Program.keyTypeAt,hu] at hk
     have hel:=EC (ks:=ks') (cs:=cs) m (by rw [← hcl,List.take_length];exact hfit) (by omega)
     obtain ⟨ys,hys⟩:=Cv (l:=List.range m) (g:=fun i=>P.keyLits (n + f) e ((cs.drop (i * P.cellsOf e)).take (P.cellsOf e))) (fun i hi=>by
      rw [hc]
      exact qF hT n f e ks' _ h3 hk (hel i (by simpa using hi)))
     exact ⟨ys.flatten,by
      unfold Program.keyLits
      rw [hu]
      simp only
      rw [if_pos hsz,hys]
      rfl⟩
   ·cases h
  ·cases h
theorem nJ {P:Program} {T:aU} (hT:bf P T) {t:TypeId} {f:Nat} {ks:List Kd} (hk:lF T f t=some ks) (hkt:P.keyTypeAt f t=true) (hkey:P.keyType t=true) (hle:f≤P.types.size + 1) (hwide:(match P.underlying t with |some (.array _ _) |some (.struct _)=>true |_=>false)=true) {cs:List Value} (hc:Fits ks cs)
  (hsz:ks.length=P.cellsOf t):∃ l,keyOf P t (.agg cs.toArray)=some l:=by
 obtain ⟨ls,h⟩:=qF hT (P.types.size + 1 - f) f t ks cs hk hkt hc
 have e:P.types.size + 1 - f + f=P.types.size + 1:=by omega
 rw [e] at h
 refine ⟨.string (keyBytes ls),?_⟩
 have hf:(Value.agg cs.toArray).formed P t=true:=by
  unfold Value.formed
  split at hwide
  ·rename_i h1;rw [h1];simp [hc.length,hsz]
  ·rename_i h1;rw [h1];simp [hc.length,hsz]
  ·cases hwide
 unfold keyOf
 split at hwide
 ·rename_i h1;rw [h1];simp [hkey,hf,Value.cells,h]
 ·rename_i h1;rw [h1];simp [hkey,hf,Value.cells,h]
 ·cases hwide
end
open Go.RowKit
theorem Eff.fresh {β:Nat→Loc} {ow:Nat→Option Nat} {w w':World} (hw:WF ow w) (hb:Below w.heap.size w w') (d g:Nat) (l:Loc) (hg:w.heap.size≤g) (hg':g<w'.heap.size):Eff β ow w (aX β d l) (gY ow g (some d)) w' [] d:=by
 refine ⟨fun c hc=>by simp [aX,hc],hb.os,hb.tape,hb.output,hb.size,fun k hk _=>⟨hb.block k hk,?_⟩,fun k hk c hc => ?_,fun k hk => ?_⟩
 ·have:k≠g:=by omega
  simp [gY,this]
 ·by_cases hkg:k=g
  ·simp [gY,hkg] at hc;exact .inr hc.symm
  ·simp [gY,hkg] at hc
   rcases hk with hk |⟨_,h0,_⟩
   ·have:=hw k (by simp [hc]);omega
   ·cases h0
 ·by_cases hkg:k=g
  ·subst hkg;exact hg'
  ·simp [gY,hkg] at hk
   exact Nat.lt_of_lt_of_le (hw k hk) hb.size
theorem Eff.none {β:Nat→Loc} {ow:Nat→Option Nat} {w w':World} (hw:WF ow w) (hb:Below w.heap.size w w') (d:Nat) (l:Loc):Eff β ow w (aX β d l) ow w' [] d:=by
 refine ⟨fun c hc=>by simp [aX,hc],hb.os,hb.tape,hb.output,hb.size,fun k hk _=>⟨hb.block k hk,rfl⟩,fun k hk c hc => ?_,fun k hk=>Nat.lt_of_lt_of_le (hw k hk) hb.size⟩
 rcases hk with hk |⟨_,h0,_⟩
 ·have:=hw k (by simp [hc]);omega
 ·cases h0
def Qu (sz n:Nat) (f:Nat→List Value) (xs:List Value):Prop:=∀ i,i<n→(f i).length=sz∧∀ j v,(f i)[j]? = some v→xs[i * sz + j]? = some v
theorem Tf {P:Program} {f:FuncId} {Xs:List CV} {M:Mem} {d e sz n:Nat} {fl:Nat→List Value} {rd:List Nat}
  (h:∀ (β:Nat→Loc) (ow:Nat→Option Nat) (w:World) (vs:List Value),WF ow w→iB β Xs vs→(∀ c∈rd,∀ ch,M.get c=some ch→Holds β ow w c ch) →
   Calls P f vs.toArray w fun e' w'=>∃ v xs,e' = .returned v∧w'.ownsRow w.heap.size e sz v n xs∧Qu sz n fl xs∧Below w.heap.size w w') :
  aC P f Xs M d { v:=XV.sv (.slc d sz 0 n),upd:=[(d,.vec e sz n fl)] } rd:=by
 intro β ow w vs hw hd hvs hr
 refine (h β ow w vs hw hvs hr).mono ?_
 rintro e' w' ⟨v,xs,rfl,hrow,hfl,hb⟩
 have get1:∀ (c:Nat) (ch:Chunk),Mem.get [(d,Chunk.vec e sz n fl)] c=some ch→c=d∧ch = .vec e sz n fl:=by
  intro c ch hc
  simp only [Mem.get,aL] at hc
  by_cases hk:d=c
  ·subst hk;simp at hc;exact ⟨rfl,hc.symm⟩
  ·simp [hk] at hc
 obtain ⟨hlen,hcase⟩:=hrow
 rcases hcase with ⟨rfl,rfl⟩ |⟨g,cap,cur,rfl,hgb,hg,h1,h2,h3,h4⟩
 ·refine ⟨_,aX β d ⟨0,0,0,true,fun _=>0⟩,ow,rfl,Eff.none hw hb d _,?_,fun c ch hc => ?_⟩
  ·simp [XV.rel,CV.rel,SV.rel,aX]
  ·obtain ⟨rfl,rfl⟩:=get1 c ch hc
   simp [Holds,aX]
 ·have hgl:g<w'.heap.size:=(Array.getElem?_eq_some_iff.1 hg).1
  refine ⟨_,aX β d ⟨g,0,cap,false,fun _=>0⟩,gY ow g (some d),rfl,Eff.fresh hw hb d g _ hgb hgl,?_,fun c ch hc => ?_⟩
  ·simp only [XV.rel,CV.rel,SV.rel,aX,if_true]
   exact ⟨⟨g,0,Option.none⟩,rfl,by omega,fun _=>by simp [Loc.addr]⟩
  ·obtain ⟨rfl,rfl⟩:=get1 c ch hc
   simp only [Holds,aX,if_true]
   refine ⟨trivial,by simp [gY],h1,h2,cur,hg,h3,fun i hi=>⟨(hfl i hi).1,fun j v hj => ?_⟩⟩
   have hx:=(hfl i hi).2 j v hj
   rw [← h4] at hx
   have hjl:j<sz:=by have:=(List.getElem?_eq_some_iff.1 hj).1;rw [(hfl i hi).1] at this;exact this
   have hlt:i * sz + j<n * sz:=by
    have:(i + 1) * sz≤n * sz:=Nat.mul_le_mul_right _ hi
    rw [Nat.add_mul,Nat.one_mul] at this;omega
   rw [List.getElem?_take_of_lt hlt,Array.getElem?_toList] at hx
   exact hx
section
variable {ρ ρ':Nat→Nat} {p:Nat→Bool}
theorem SV.eu (h:∀ c,p c=true→ρ c=ρ' c) {s:SV} (hs:s.ok p=true):s.ren ρ=s.ren ρ':=by
 cases s with
 | raw v=>rfl
 | fn f caps =>
  simp only [SV.ok,List.all_eq_true] at hs
  simp only [SV.ren]
  congr 1
  exact List.map_congr_left fun c hc=>h c (hs c hc)
 | _=>simp only [SV.ok] at hs;simp only [SV.ren];rw [h _ hs]
theorem SVs.eu (h:∀ c,p c=true→ρ c=ρ' c):∀ {l:List SV},l.all (SV.ok p)=true→l.map (SV.ren ρ)=l.map (SV.ren ρ')
 | [],_=>rfl
 | s::r,hl=>by
  simp only [List.all_cons,Bool.and_eq_true] at hl
  rw [List.map_cons,List.map_cons,SV.eu h hl.1,SVs.eu h hl.2]
theorem CV.eu (h:∀ c,p c=true→ρ c=ρ' c) {s:CV} (hs:s.ok p=true):s.ren ρ=s.ren ρ':=by
 cases s with
 | one s=>simp only [CV.ren,SV.eu h hs]
 | agg cs=>simp only [CV.ren,SVs.eu h hs]
theorem iB.eu (h:∀ c,p c=true→ρ c=ρ' c):∀ {l:List CV},l.all (CV.ok p)=true→l.map (CV.ren ρ)=l.map (CV.ren ρ')
 | [],_=>rfl
 | s::r,hl=>by
  simp only [List.all_cons,Bool.and_eq_true] at hl
  rw [List.map_cons,List.map_cons,CV.eu h hl.1,iB.eu h hl.2]
theorem XV.eu (h:∀ c,p c=true→ρ c=ρ' c) {s:XV} (hs:s.ok p=true):s.ren ρ=s.ren ρ':=by
 cases s with
 | cv s=>simp only [XV.ren,CV.eu h hs]
 | tup l=>simp only [XV.ren,iB.eu h hs]
theorem SV.mG (s:SV):s.ren id=s:=by
 cases s with
 | fn f caps=>simp only [SV.ren,List.map_id]
 | _=>rfl
theorem SVs.mG:∀ l:List SV,l.map (SV.ren id)=l
 | []=>rfl
 | s::r=>by rw [List.map_cons,SV.mG,SVs.mG r]
theorem CV.mG (s:CV):s.ren id=s:=by
 cases s with
 | one s=>simp only [CV.ren,SV.mG]
 | agg cs=>simp only [CV.ren,SVs.mG]
theorem iB.mG:∀ l:List CV,l.map (CV.ren id)=l
 | []=>rfl
 | s::r=>by rw [List.map_cons,CV.mG,iB.mG r]
end
theorem Bl {P:Program} {T:aU} {f:FuncId} {fn:Func} {c:Code} (hT:bf P T) (hf:P.funcs[f]? = some fn) (hb:fn.body=some c) {ch':Chunk} (hcl:ch'.closed=true) (hro:ch'.fD=false) (Xl:List CV) (M0:Mem) (n:Nat)
  (hXl:Xl.all (CV.ok fun i=>Nat.blt i n)=true) (hM0:∀ i ch,M0.get i=some ch→i<n∧ch.fD=true) {M:Mem} {d:Nat} (hM:∀ i ch,M0.get i=some ch→M.get i=some ch) (hd:n≤d) (i:Nat) (X:XV) (hX:X.ok (fun j=>Nat.beq i j)=true) 
  (h:∀ C:Ctx,C.n0=n→av P C c ⟨fV fn.ntmps (Xl.map .cv),M0,n⟩ (Ends C T fn.results.toList 0 n ⟨X,[],some (i,ch')⟩)) :
  aC P f Xl M d { v:=X.ren fun _=>d,upd:=[(d,ch')] } (List.range n):=by
 have hi:∀ i,i<n→([]++List.range n)[i]? = some i:=fun i hi=>by simp [hi]
 have hren:Xl=Xl.map (CV.ren fun i=>(([]++List.range n)[i]?).getD d):=by
  rw [iB.eu (ρ':=id) (p:=fun i=>Nat.blt i n) (fun c hc=>by simp only [Nat.blt_eq] at hc;rw [hi c hc];rfl) hXl,iB.mG]
 have hrenX:X.ren (fun _=>d)=X.ren (gX ([]++List.range n) d (some (i,ch'))) :=
  XV.eu (p:=fun j=>Nat.beq i j) (fun c hc=>by simp only [aL,decide_eq_true_eq] at hc;subst hc;simp [gX]) hX
 refine fE (ids:=[]) (rids:=List.range n) (Xl:=Xl) (M0:=M0) (out:=⟨X,[],some (i,ch')⟩) (k1:=0) (n0:=n) hT hf hb (by simp) rfl (by simp) (by simp;omega) hXl (fun i ch hm => ?_) (fun i ch hi=>by simp [Mem.get] at hi) (fun j ch hj => ?_) ?_ h hren hrenX rfl (fun c ch hc => ?_)
 ·obtain ⟨h1,h2⟩:=hM0 i ch hm
  refine ⟨h1,?_,fun _=>h2,fun ci hci => ?_⟩
  ·cases ch<;>first |rfl |cases h2
  ·rw [hi i h1] at hci
   cases hci
   exact hM i ch hm
 ·cases hj;exact ⟨hcl,hro⟩
 ·exact XV.aG (fun j hj=>by simp only [Bool.or_eq_true];exact .inr hj) hX
 ·simp only [Mem.get,aL] at hc
  by_cases hk:d=c
  ·simp only [hk,decide_true,cond_true,Option.some.injEq] at hc
   exact .inr ⟨hk.symm,i,by rw [hc]⟩
  ·simp [hk] at hc
def Qx (e:Nat) (As:List mQ):mQ where
 Φ w b s O:=(∀ k,O k→k<w.heap.size)∧O b∧(∃ arr:Array Value,w.heap[b]? = some (.cells arr e (0,0))∧arr.size=s 0∧As.length≤s 0∧s 0≤maxLen∧∀ j,j<As.length→arr[j]? = some (.pointer (some ⟨s (j + 1),0,none⟩))) ∧
  ∃ (Oj:Nat→Nat→Prop) (sj:Nat→Nat→Nat),(∀ j k,j<As.length→Oj j k→O k∧k≠b)∧(∀ i j k,i<As.length→j<As.length→Oj i k→Oj j k→i=j)∧∀ (j:Nat) (A:mQ),As[j]? = some A→A.Φ w (s (j + 1)) (sj j) (Oj j)
 loc:=by
  rintro w w' b s O O' hk hO ⟨h1,h2,⟨arr,h3,h4⟩,Oj,sj,p1,p2,p3⟩
  refine ⟨fun k hk' => ?_,(hO b).2 h2,⟨arr,(hk b h2).trans h3,h4⟩,Oj,sj,fun j k hj ho=>⟨(hO k).2 (p1 j k hj ho).1,(p1 j k hj ho).2⟩,p2,fun j A hA=>A.loc (fun k ho=>hk k ?_) (fun _=>Iff.rfl) (p3 j A hA)⟩
  ·have hk0:=(hO k).1 hk'
   have e:=hk k hk0
   rw [Array.getElem?_eq_getElem (h1 k hk0)] at e
   exact (Array.getElem?_eq_some_iff.1 e).1
  ·exact (p1 j k (List.getElem?_eq_some_iff.1 hA).1 ho).1
 in_heap:=by
  rintro w b s O ⟨h1,_⟩ k hk
  exact h1 k hk
section
variable {P:Program} {T:aU} {S:St} {d:Nat} {o:Oper}
end
open Classical in
theorem Qx.take {e:Nat} {As:List mQ} {m:Nat} {w:World} {b:Nat} {s:Nat→Nat} {O:Nat→Prop} (h:(Qx e As).Φ w b s O):(Qx e (As.take m)).Φ w b s O:=by
 obtain ⟨h1,h2,⟨arr,a1,a2,a3,a4,a5⟩,Oj,sj,p1,p2,p3⟩:=h
 have hl:(As.take m).length≤As.length:=by simp;omega
 refine ⟨h1,h2,⟨arr,a1,a2,by omega,a4,fun j hj=>a5 j (by omega)⟩,Oj,sj,fun j k hj hk=>p1 j k (by omega) hk,fun i j k hi hj=>p2 i j k (by omega) (by omega),fun j A hA=>p3 j A ?_⟩
 have hj:=(List.getElem?_eq_some_iff.1 hA).1
 have hjm:j<m:=by simp at hj;omega
 rwa [List.getElem?_take_of_lt hjm] at hA
end Go.Sx
