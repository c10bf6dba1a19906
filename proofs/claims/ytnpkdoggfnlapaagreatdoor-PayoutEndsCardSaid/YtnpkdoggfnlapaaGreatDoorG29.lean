/- Parts Ve Vf Pf. -/
import Derived.Test.YtnpkdoggfnlapaaGreatDoorG28
import Derived.Test.YtnpkdoggfnlapaaGreatDoorG07
import Derived.Test.YtnpkdoggfnlapaaGreatDoorG21
set_option linter.unusedSimpArgs false
set_option linter.unusedVariables false
namespace Go.Proofs.YtnpkdoggfnlapaaGreatDoor
set_option maxRecDepth 100000
open Go.RowKit Go.Lib Go.Sort Go.MapKept Go.Shelf
theorem vV:∀ (ss:List Pt) (i j:Nat),j<9→(fC ss)[i * 9 + j]? = (ss[i]?).bind fun x=>x.cells[j]?
 | [],i,j,_=>by simp [fC]
 | x::r,0,j,hj=>by
  simp only [fC,List.flatMap_cons,Nat.zero_mul,Nat.zero_add,List.getElem?_cons_zero,Option.bind_some]
  rw [List.getElem?_append_left (by simpa [Pt.cells] using hj)]
 | x::r,i + 1,j,hj=>by
  have:=vV r i j hj
  simp only [fC] at this ⊢
  simp only [List.flatMap_cons,List.getElem?_cons_succ]
  rw [List.getElem?_append_right (by simp [Pt.cells];omega),← this]
  congr 1
  simp [Pt.cells];omega
theorem SF (x:Pt):x.cells.length=9:=rfl
theorem I4 (ss:List Pt):(flatK Pt.cells 9 ss.toArray).toList=fC ss:=by
 apply List.ext_getElem?
 intro t
 by_cases ht:t<ss.length * 9
 ·have h1:t / 9<ss.length:=by omega
  have h2:t % 9<9:=Nat.mod_lt _ (by omega)
  have h3:t=t / 9 * 9 + t % 9:=by omega
  have hs:t<(flatK Pt.cells 9 ss.toArray).size:=by simpa using ht
  have e:=get_flatK Pt.cells 9 ss.toArray t (by simpa using ht)
  rw [getElem!_pos _ t hs] at e
  rw [Array.getElem?_toList,Array.getElem?_eq_getElem hs,e]
  conv=>rhs;rw [h3]
  rw [vV ss _ _ h2]
  have e2:ss.toArray[t / 9]! = ss[t / 9]:=by simp [h1]
  rw [e2,List.getElem?_eq_getElem h1,Option.bind_some]
  rw [getElem!_pos _ _ (by rw [SF];exact h2),List.getElem?_eq_getElem]
 ·rw [List.getElem?_eq_none (by simp;omega),List.getElem?_eq_none (by rw [BX];omega)]
theorem A9 {w:World} {g:Nat} {cur:Array Value} {e:TypeId} {ss:List Pt} (hb:w.heap[g]? = some (.cells cur e (0,0))) (ht:cur.toList.take (ss.length * 9)=fC ss):HoldsK Pt.cells 9 w g 0 ss.toArray:=by
 intro j hj
 have hj':j<ss.length * 9:=by simpa using hj
 refine ⟨?_,by simp [World.frozen?,hb]⟩
 have h1:(cur.toList.take (ss.length * 9))[j]? = (fC ss)[j]?:=by rw [ht]
 rw [List.getElem?_take_of_lt hj'] at h1
 simp only [World.cell?,hb,Nat.zero_add]
 simp only [Option.isSome_none,Bool.false_eq_true,if_false]
 rw [← Array.getElem?_toList,h1,← I4,Array.getElem?_toList,Array.getElem?_eq_getElem hj,getElem!_pos _ j hj]
 rfl
theorem GJ {w:World} {g n:Nat} {os:Array Obj} {cur:Array Value} {e:TypeId} {fr:Nat×Nat} (d:Array Pt) (hb:w.heap[g]? = some (.cells cur e fr)) :
  (sortWorldK Pt.cells 9 w g 0 n d os).heap[g]? = some (.cells (putCells id 0 (flatK Pt.cells 9 d) cur) e fr):=by
 have hg:g<w.heap.size:=(Array.getElem?_eq_some_iff.1 hb).1
 unfold sortWorldK putRowK
 rw [heap_grow_old _ _ (by simpa using hg)]
 simp [putRow,mapBlock,Sort.ahead,Array.getElem?_modify,hb,onCells]
theorem A8 {w:World} {g n:Nat} {os:Array Obj} (d:Array Pt):w.grownBy (sortWorldK Pt.cells 9 w g 0 n d os) (some g):=by
 unfold sortWorldK putRowK
 refine ⟨rfl,rfl,rfl,by simp,fun k hk hne => ?_⟩
 rw [heap_grow_old _ _ (by simpa using hk)]
 have:g≠k:=fun e=>hne (by rw [e])
 simp [putRow,mapBlock,Sort.ahead,Array.getElem?_modify,this]
theorem DN (cur:Array Value) (ts:List Pt) (h:ts.length * 9≤cur.size):(putCells id 0 (flatK Pt.cells 9 ts.toArray) cur).toList.take (ts.length * 9)=fC ts:=by
 rw [← I4]
 apply List.ext_getElem?
 intro j
 by_cases hj:j<ts.length * 9
 ·have hs:j<(flatK Pt.cells 9 ts.toArray).size:=by simpa using hj
  rw [List.getElem?_take_of_lt hj,Array.getElem?_toList,Array.getElem?_toList]
  simp [putCells,hj,show j<cur.size by omega]
 ·rw [List.getElem?_take_eq_none (by omega),List.getElem?_eq_none (by simp;omega)]
theorem Bc {w:World} {base g cap n:Nat} {e:TypeId} {os:Array Obj} {cur:Array Value} {ss ts:List Pt} (hl:ts.length=ss.length) (hbase:base≤g) (hb:w.heap[g]? = some (.cells cur e (0,0)))
  (h1:ss.length≤cap) (h2:cap≤maxLen) (h3:cur.size=cap * 9) :
  (sortWorldK Pt.cells 9 w g 0 n ts.toArray os).ownsRow base e 9 (.slice (some ⟨g,0,none⟩) ss.length cap) ss.length (fC ts) :=
 ⟨by rw [BX,hl],.inr ⟨g,cap,_,rfl,hbase,GJ _ hb,h1,h2,by simp [putCells,h3],by rw [← hl];exact DN cur ts (by omega)⟩⟩
theorem WO:∀ w,(isAgg 65).run Tryz.prog w = .ok true w:=Tryz.isAgg65
theorem Vk:∀ w,(Go.sizeOf 65).run Tryz.prog w = .ok 9 w:=Tryz.sizeOf65
theorem Gv (x y:Int) (w:World):Calls Tryz.prog 175 #[.int .i64 x,.int .i64 y] w fun e w'=>e = .returned (.int .i64 (compareInt x y))∧w'=w:=AnyG.cmp_Compare_int Tryz.Wm x y w
theorem Em (ss:List Pt) (blk cap:Nat) (w:World) (hH:HoldsK Pt.cells 9 w blk 0 ss.toArray) (hblk:blk<w.heap.size) (hsz:ss.length<4611686018427387904) :
  Calls Tryz.prog 172 #[.slice (some ⟨blk,0,none⟩) ss.length cap,.func (.func 133) #[] #[]] w fun e w'=>e = .returned (.tuple #[])∧∃ n os,w'=sortWorldK Pt.cells 9 w blk 0 n (jU ss).toArray os:=by
 have eg:∀ args w,(callFunc 133 args).run Tryz.prog w = .ok (.enter 133 args) w:=enters_of Tryz.func133 (by kernel_rfl) rfl
 have h:=AnyQ.slices_SortFunc_total Tryz.TF 9 WO Vk Pt.cells SF (fun x u hu=>by simp [Pt.cells] at hu;rcases hu with rfl |rfl |rfl |rfl |rfl |rfl |rfl |rfl |rfl<;>rfl) Pb (by rw [Co];exact Cr) 133 #[] blk 0 cap ss.toArray w eg
  (fun m os dk _ x y=>JC Gv x y _) hH hblk (by simpa using hsz) (by rw [Co];exact wo)
 rw [Co] at h
 exact h
theorem zX (Bm b:Nat) (es:Array MapEntry) (clock:Nat) (hst:Stamped es clock) (pc:List (Pt×bF)) (hpc:es.toList.map (fun e=>(e.key,e.val))=pc.map fun x=>(x.1.v,x.2.v)) (hN:pc.length * 16≤140737488355328)
  (w:World) (hBm:Bm<w.heap.size) (hm:w.cell? ⟨Bm,0,none⟩=some (.map (some b))) (hb:w.heap[b]? = some (.map es clock)) :
  Calls Tryz.prog 131 #[.func (.func 173) #[] #[.pointer (some ⟨Bm,0,none⟩)],.func (.func 133) #[] #[]] w fun e w'=>∃ v,e = .returned v∧w'.ownsRow w.heap.size 65 9 v pc.length (fC (jU (pc.map (·.1))))∧(v = .slice none 0 0↔pc=[])∧Below w.heap.size w w':=by
 have hmax:(140737488355328:Nat)≤maxLen:=by decide
 have eg:∀ args w,(callFunc 173 args).run Tryz.prog w = .ok (.enter 173 args) w:=enters_of Tryz.func173 (by kernel_rfl) rfl
 have hseq:=G8 Fence.wide 1 trivial rfl (Nat.le_refl _) Bm b es clock hst pc hpc w hBm hm hb
 have hcol:=callsIn_wide.1 (collect_in Fence.wide 3 trivial trivial rfl (Nat.le_refl _) 173 #[.pointer (some ⟨Bm,0,none⟩)] trivial eg _ pc.length (by omega) hN w hseq)
 go_enter Tryz.func131,Tryz.ntmps131
 go_wp2_with (go_at_call 171;refine hcol.mono ?_;rintro e W ⟨v,ss,rfl,hS,hrow,hnil,hbe⟩)
 have hlen:ss.length=pc.length:=by have:=hS.length_eq;simpa using this
 have hsp:jU (pc.map (·.1))=jU ss:=(Bj hS).symm
 have hsl:(jU ss).length=ss.length:=(jB ss).length_eq
 rcases hrow.2 with ⟨rfl,hz⟩ |⟨gb,cap,cur,rfl,hbase,hgb,r1,r2,r3,r4⟩
 ·have hss:ss=[]:=List.eq_nil_of_length_eq_zero hz
  subst hss
  have hpn:pc=[]:=List.eq_nil_of_length_eq_zero (by simpa using hlen.symm)
  have hs0:=AnyF.slices_SortFunc_none (P:=Tryz.prog) (ρ:=Tryz.Dz) { Tryz.TF with } none 0 (.func (.func 133) #[] #[]) W
  change Calls Tryz.prog 172 _ _ _ at hs0
  go_wp2_with (go_at_call 172;refine hs0.mono ?_;rintro e w' ⟨rfl,rfl⟩)
  go_ret
  subst hpn
  exact ⟨_,rfl,by simpa [jU] using hrow,by simp,hbe⟩
 ·have hH:HoldsK Pt.cells 9 W gb 0 ss.toArray:=A9 hgb r4
  have hgl:gb<W.heap.size:=(Array.getElem?_eq_some_iff.1 hgb).1
  have cS:=Em ss gb cap W hH hgl (by omega)
  go_wp2_with (go_at_call 172;refine cS.mono ?_;rintro e w' ⟨rfl,nn,os,hw'⟩)
  go_ret
  refine ⟨_,rfl,?_,⟨fun e=>(by cases e),fun e => ?_⟩,?_⟩
  ·rw [hsp,← hlen]
   have hz:=Bc (n:=nn) (os:=os) hsl hbase hgb r1 r2 r3
   exact hz
  ·subst e
   simp at hlen
   exact absurd (hnil.2 hlen) (by simp)
  ·exact hbe.grown (A8 _) hbe.size (fun j hj=>by cases hj;exact hbase)
theorem G5 (s b:Nat) (es:Array MapEntry) (clock:Nat) (hst:Stamped es clock) (pc:List (Pt×bF)) (hpc:es.toList.map (fun e=>(e.key,e.val))=pc.map fun x=>(x.1.v,x.2.v)) (hN:pc.length * 16≤140737488355328)
  (w:World) (hm:w.cell? ⟨s,0,none⟩=some (.map (some b))) (hb:w.heap[b]? = some (.map es clock)) :
  Calls Tryz.prog 79 #[.pointer (some ⟨s,0,none⟩)] w fun e w'=>∃ v,e = .returned v∧w'.ownsRow w.heap.size 65 9 v pc.length (fC (jU (pc.map (·.1))))∧(v = .slice none 0 0↔pc=[])∧Below w.heap.size w w':=by
 have hk:=fun W=>callsIn_wide.1 (Px Fence.wide 1 trivial rfl (some b) W)
 have hbl:b<w.heap.size:=(Array.getElem?_eq_some_iff.1 hb).1
 have hs:=zX w.heap.size b es clock hst pc hpc hN (w.alloc (.cells #[.map (some b)] 128)) (by simp) (by simp only [World.cell?,gQ];rfl) ((Below.heap_alloc _ _ _ hbl).trans hb)
 have hbe:Below w.heap.size w (w.alloc (.cells #[.map (some b)] 128)):=(Below.refl _ w).alloc (Nat.le_refl _) _
 go_enter Tryz.func79,Tryz.ntmps79
 go_wp2_with (first
  | (go_at_call 132;refine (hk _).mono ?_;rintro e w' ⟨rfl,rfl⟩)
  | (go_at_call 131;refine hs.mono ?_;rintro e w' ⟨v,rfl,hrow,hnil,hb2⟩))
 go_ret
 exact ⟨v,rfl,ownsRow_base_a hrow (by simp),hnil,hbe.trans (hb2.mono (by simp))⟩
set_option maxRecDepth 100000
open Go.Sx
theorem OI (l:List Pt) (n:Nat) (hn:l.length=n):Qu 9 n (fun i=>(l.getD i default).cells) (fC l):=by
 intro i hi
 refine ⟨rfl,fun j v hj => ?_⟩
 have hjl:j<9:=by have:=(List.getElem?_eq_some_iff.1 hj).1;simpa [Pt.cells] using this
 rw [vV l i j hjl]
 have hil:i<l.length:=by omega
 dsimp only at hj
 rw [List.getD_eq_getElem?_getD] at hj
 rw [List.getElem?_eq_getElem hil] at hj ⊢
 exact hj
theorem aB.at {β:Nat→Sx.Loc} {ow:Nat→Option Nat} {w:World} {c:Nat} {S:aB} (h:Holds β ow w c (.abs (dU S))):(β c).base=0∧∃ b es clock,w.cell? ⟨(β c).blk,0,none⟩=some (.map (some b))∧w.heap[b]? = some (.map es clock)∧MapKept.Stamped es clock ∧
  es.toList.map (fun e=>(e.key,e.val))=S.coins.map fun x=>(x.1.v,x.2.v):=by
 obtain ⟨_,hb,_,_,β',ow',hw,e1,e2,e3,_,_,hall⟩:=h
 have h0:=hall 0 _ rfl
 have h1:=hall 1 _ rfl
 obtain ⟨_,_,_,arr,ha,hrel⟩:=h0
 obtain ⟨_,_,_,es,clock,hm,hs,hl⟩:=h1
 refine ⟨hb,(β' 1).blk,es,clock,?_,hm,hs,hl⟩
 obtain ⟨v,r,hv,hv1,_⟩:=hrel
 simp only [SV.rel] at hv1
 subst hv1
 rw [← e1]
 simp only [World.cell?,ha]
 have:arr.toList[0]? = some (.map (some (β' 1).blk)):=by rw [hv];rfl
 simpa using this
def aB.points (S:aB):List Pt:=jU (S.coins.map (·.1))
theorem aB.C9 (S:aB):S.points.length=S.coins.length:=by rw [aB.points,(jB _).length_eq];simp
theorem JN (S:aB) (hN:S.coins.length * 16≤140737488355328) {M:Mem} {c0 d:Nat} (hM:M.get c0=some (.abs (dU S))) :
  aC Tryz.prog 79 [.one (.ptr c0 0 0 0)] M d { v:=XV.sv (.slc d 9 0 S.coins.length),upd:=[(d,.vec 65 9 S.coins.length fun i=>(S.points.getD i default).cells)] } [c0]:=by
 refine Tf fun β ow w vs hw hvs hr => ?_
 have h:=hr c0 (by simp) _ hM
 obtain ⟨hb,b,es,clock,h1,h2,h3,h4⟩:=aB.at h
 obtain ⟨v,r,rfl,hv,rfl⟩:=hvs
 simp only [CV.rel,SV.rel,Sx.Loc.addr,hb] at hv
 subst hv
 refine (G5 (β c0).blk b es clock h3 S.coins h4 hN w h1 h2).mono ?_
 rintro e w' ⟨v,rfl,hrow,_,hbe⟩
 exact ⟨v,_,rfl,hrow,OI S.points _ S.C9,hbe⟩
set_option maxRecDepth 100000
open Go.Sx
theorem Ma {S:aB} (p:Pt):p∈S.points↔S.has p=true:=by
 rw [aB.points,(jB _).mem_iff]
 constructor
 ·intro h
  obtain ⟨x,hx,rfl⟩:=List.mem_map.1 h
  cases hh:S.has x.1 with
  | true=>rfl
  | false=>exact absurd rfl (yE hh x hx)
 ·intro h
  exact List.mem_map.2 ⟨_,Jr (UW h),rfl⟩
def aB.pt (S:aB) (i:Nat):Pt:=S.points.getD i default
theorem Ye {S:aB} {i:Nat} (hi:i<S.coins.length):S.points[i]? = some (S.pt i):=by
 have:i<S.points.length:=by rw [S.C9];exact hi
 rw [aB.pt,List.getD_eq_getElem?_getD,List.getElem?_eq_getElem this];rfl
theorem WQ {S:aB} {i:Nat} (hi:i<S.coins.length):S.has (S.pt i)=true:=(Ma _).1 (List.mem_of_getElem? (Ye hi))
section
variable {S:aB} {R:RC} {zs:List (Pt×bF)}
theorem gu.points (h:gu S R zs):S.points=R.P:=by
 rw [h.P]
 refine DC ((jB _).trans (h.perm.map _).symm) (nR _) ?_
 rw [List.pairwise_map]
 exact h.srt.imp fun {a b} hab=>by rw [LJ hab];rfl
end
theorem OJ (S:aB) (p:Pt) (hp:S.has p=true) {M:Mem} {c0 d:Nat} (hM:M.get c0=some (.abs (dU S))) (hd:Nat.beq d c0=false):aC Tryz.prog 21 [.one (.ptr c0 0 0 0),p.cv] M d { v := .tup [(S.get p).cv,.one (.raw (.bool true))],upd:=[(c0,.abs (dU S))],wr:=[c0] } [c0]:=by
 have h:=I9 S p hM hd
 rw [hp] at h
 exact h
theorem Qa {P:Program} {T:aU} {f:FuncId} {fn:Func} {c:Code} (hT:bf P T) (hf:P.funcs[f]? = some fn) (hb:fn.body=some c) {A B A' B':mQ} (X:XV) (hX:X.ok (fun _=>false)=true)
  {M:Mem} {c0 c1 d:Nat} (h0:M.get c0=some (.abs A)) (h1:M.get c1=some (.abs B)) (hne:(Nat.beq c0 c1 || Nat.beq d c0 || Nat.beq d c1)=false)
  (h:∀ C:Ctx,C.n0=2→av P C c ⟨fV fn.ntmps [.cv (.one (.ptr 0 0 0 0)),.cv (.one (.ptr 1 0 0 0))],[(0,.abs A),(1,.abs B)],2⟩ (Sx.Ends C T fn.results.toList 2 2 ⟨X,[(0,.abs A'),(1,.abs B')],none⟩)) :
  aC P f [.one (.ptr c0 0 0 0),.one (.ptr c1 0 0 0)] M d { v:=X,upd:=[(c0,.abs A'),(c1,.abs B')],wr:=[c0,c1] } [c0,c1]:=by
 simp only [Bool.or_eq_false_iff,aL,decide_eq_false_iff_not] at hne
 obtain ⟨⟨n1,n2⟩,n3⟩:=hne
 have get2:∀ (i:Nat) (x y ch:Chunk),Mem.get [(0,x),(1,y)] i=some ch→(i=0∧ch=x)∨(i=1∧ch=y):=by
  intro i x y ch hi
  simp only [Mem.get,aL] at hi
  by_cases e0:0=i
  ·subst e0;simp at hi;exact .inl ⟨rfl,hi.symm⟩
  ·by_cases e1:1=i
   ·subst e1;simp at hi;exact .inr ⟨rfl,hi.symm⟩
   ·simp [e0,e1] at hi
 refine fE (ids:=[c0,c1]) (rids:=[]) (Xl:=[.one (.ptr 0 0 0 0),.one (.ptr 1 0 0 0)]) (M0:=[(0,.abs A),(1,.abs B)]) (out:=⟨X,[(0,.abs A'),(1,.abs B')],none⟩) (k1:=2) (n0:=2) hT hf hb (by simp [n1]) rfl rfl (by simp [n2,n3]) rfl (fun i ch hi => ?_) (fun i ch hi => ?_) (fun i ch hi=>by cases hi) (XV.aG (fun _ h=>by cases h) hX) h rfl (XV.aM hX).symm rfl (fun q ch hq => ?_)
 ·rcases get2 _ _ _ _ hi with ⟨rfl,rfl⟩ |⟨rfl,rfl⟩
  ·exact ⟨by decide,rfl,fun h=>by omega,fun ci hci=>by simp at hci;subst hci;exact h0⟩
  ·exact ⟨by decide,rfl,fun h=>by omega,fun ci hci=>by simp at hci;subst hci;exact h1⟩
 ·rcases get2 _ _ _ _ hi with ⟨rfl,rfl⟩ |⟨rfl,rfl⟩<;>exact ⟨rfl,rfl⟩
 ·simp only [Mem.get,aL] at hq
  by_cases e0:c0=q
  ·subst e0;simp at hq;subst hq;exact .inl ⟨0,rfl,rfl⟩
  ·by_cases e1:c1=q
   ·subst e1;simp [e0] at hq;subst hq;exact .inl ⟨1,rfl,rfl⟩
   ·simp [e0,e1] at hq
def Xf (S:aB) (R:RC) (i:Nat):St :=
 ⟨[some (XV.sv (.ptr 0 0 0 0)),some (XV.sv (.ptr 1 0 0 0)),none,none,some (XV.bool false),some (XV.sv (.slc 2 9 0 S.coins.length)),some (XV.int .i64 i)]++List.replicate 72 none,
  [(0,.abs (dU S)),(1,R.root 3 4),(2,.vec 65 9 S.coins.length fun i=>(S.points.getD i default).cells),(3,R.Et),(4,R.Er)],5⟩
set_option maxHeartbeats 4000000 in
set_option maxRecDepth 100000 in
theorem PZ (S:aB) (R:RC) (hT:Twin S R) (hlen:S.coins.length≤1000) {M:Mem} {c0 c1 d:Nat} (h0:M.get c0=some (.abs (dU S))) (h1:M.get c1=some (.abs (Bg R))) (hne:(Nat.beq c0 c1 || Nat.beq d c0 || Nat.beq d c1)=false) :
  aC Tryz.prog 41 [.one (.ptr c0 0 0 0),.one (.ptr c1 0 0 0)] M d { v:=XV.bool true,upd:=[(c0,.abs (dU S)),(c1,.abs (Bg R))],wr:=[c0,c1] } [c0,c1]:=by
 obtain ⟨zs,hz⟩:=hT
 have hzl:zs.length=S.coins.length:=hz.perm.length_eq
 have hPl:R.P.length=S.coins.length:=by rw [hz.len.1,hzl]
 have hCl:R.C.length=S.coins.length:=by rw [hz.len.2,hzl]
 refine Qa Tryz.aA Tryz.func41 rfl _ rfl h0 h1 hne (fun C hC => ?_)
 have hC0:∀ ids:List Nat,ids[0]? = some 0→ids[1]? = some 1→∀ i,i<C.n0→ids[i]? = some i:=fun ids e0 e1 i hi=>by
  rw [hC] at hi
  match i,hi with
  | 0,_=>exact e0
  | 1,_=>exact e1
 refine xK 2 ?_
 refine xC rfl Tryz.func79 rfl (JN S (by omega) rfl) ?_
 refine wD <| ak ?_
 refine RC.opens R 1 rfl ?_
 refine xK 1 ?_
 refine wC (fun h=>absurd h (by rw [hPl];simp)) (fun _ => ?_)
 (refine xG ?_)
 refine xC rfl Tryz.func25 rfl (RL S rfl rfl) ?_
 refine wC (fun h=>absurd h (by rw [hPl];simp)) (fun _ => ?_)
 (refine xG ?_)
 refine xC rfl Tryz.func23 rfl (DU S rfl rfl) ?_
 refine xC rfl Tryz.func80 rfl (yS R (by omega) (i1:=7) (i2:=8) rfl rfl rfl rfl rfl) ?_
 refine wC (fun h=>absurd h (by rw [hz.sum];simp)) (fun _ => ?_)
 (refine xG ?_)
 refine wD <| ak <| av.seq ?_
 refine xK 1 ?_
 refine wD <| ak <| av.block ?_
 refine av.loop (α:={ i:Nat // i≤S.coins.length }) (fun i=>Xf S R i.1) (fun i=>S.coins.length - i.1) ⟨0,Nat.zero_le _⟩ ?_ ?_
 ·exact aN.ren [0,1,4,7,8] (by decide) rfl (hC0 _ rfl rfl) (by rw [hC];decide) rfl ⟨rfl,rfl,rfl,rfl,rfl,trivial⟩ ⟨⟨_,rfl,rfl⟩,⟨_,rfl,rfl,rfl⟩,⟨_,rfl,rfl,rfl,Nat.le_refl _,fun _ _=>rfl⟩,⟨_,rfl,rfl,rfl,Nat.le_refl _,fun _ _=>rfl⟩,⟨_,rfl,rfl,rfl,Nat.le_refl _,fun _ _=>rfl⟩,trivial⟩
 rintro ⟨i,hi⟩
 dsimp only
 refine xK 1 ?_
 refine wC (fun h3 => ?_) (fun h3 => ?_)
 case refine_2 =>
  (refine xG ?_)
  refine wD <| bW <| aS <| aI <| ak <| xI ?_
  (refine xB ?_)
  refine wD ⟨.inr rfl,_,RC.shuts R 1 rfl rfl rfl rfl rfl rfl (Nat.le_refl _) (Nat.le_refl _) (fun _ _=>rfl) (fun _ _=>rfl),rfl,fun j ch hj => ?_,fun j ch hj=>by cases hj⟩
  simp only [Mem.get,aL] at hj
  by_cases e0:0=j
  ·subst e0;simp at hj;subst hj;exact ⟨by decide,rfl⟩
  ·by_cases e1:1=j
   ·subst e1;simp at hj;subst hj;exact ⟨by decide,rfl⟩
   ·simp [e0,e1] at hj
 (refine xG ?_)
 have h3':i<S.coins.length:=by simp only [decide_eq_true_eq] at h3;omega
 have hwi:IntKind.i64.wrap ((i:Int) + 1)=((i + 1:Nat):Int):=by rw [wrap_i64 (by omega) (by omega)];omega
 have hgi:S.points.getD (0 + ((i:Nat):Int).toNat) default=S.pt i:=by simp [aB.pt]
 have hp:S.has (S.points.getD (0 + ((i:Nat):Int).toNat) default)=true:=by rw [hgi];exact WQ h3'
 have hPi:R.P.getD (0 + ((i:Nat):Int).toNat) default=S.points.getD (0 + ((i:Nat):Int).toNat) default:=by rw [hz.points]
 have hCi:R.C.getD (0 + ((i:Nat):Int).toNat) default=S.get (S.points.getD (0 + ((i:Nat):Int).toNat) default):=by
  have ha:=hz.at (i:=i) (by omega)
  have e:(0 + ((i:Nat):Int).toNat)=i:=by omega
  rw [← hPi,e]
  unfold aB.get
  rw [ha.1,ha.2.2,ha.2.1]
  rfl
 refine wD <| ak <| av.seq <| av.block <| xI ?_
 (refine xB ?_)
 refine wN ⟨by omega,by omega⟩ ?_
 (refine xG ?_)
 refine wN (by omega) ?_
 (refine xG ?_)
 refine xC rfl Tryz.func21 rfl (OJ S (S.points.getD (0 + ((i:Nat):Int).toNat) default) hp rfl rfl) ?_
 refine wN ⟨by omega,by omega⟩ ?_
 (refine xG ?_)
 refine wN (by omega) ?_
 (refine xG ?_)
 refine wN ⟨by omega,by omega⟩ ?_
 (refine xG ?_)
 refine wN (by omega) ?_
 (refine xG ?_)
 (refine wP _ _ (o7 Zd rfl (S.points.getD (0 + ((i:Nat):Int).toNat) default) (R.P.getD (0 + ((i:Nat):Int).toNat) default) rfl rfl) ?_;refine xZ ?_)
 refine wC (fun h=>absurd h (by rw [hPi];simp)) (fun _ => ?_)
 (refine xG ?_)
 refine wN ⟨by omega,by omega⟩ ?_
 (refine xG ?_)
 refine wN (by omega) ?_
 (refine xG ?_)
 refine xC rfl Tryz.func81 rfl (GQ (R.C.getD (0 + ((i:Nat):Int).toNat) default) _ _) ?_
 (refine wP _ _ (o7 XR rfl (S.get (S.points.getD (0 + ((i:Nat):Int).toNat) default)) (R.C.getD (0 + ((i:Nat):Int).toNat) default) rfl rfl) ?_;refine xZ ?_)
 refine wC (fun h=>absurd h (by rw [hCi];simp)) (fun _ => ?_)
 (refine xG ?_)
 refine wD <| aJ <| xI ?_
 (refine xB ?_)
 refine wD <| aP ⟨⟨i + 1,h3'⟩,by simp only;omega,?_⟩
 exact aN.ren [0,1,2,3,4] (by decide) rfl (hC0 _ rfl rfl) (by rw [hC];decide) rfl ⟨rfl,rfl,rfl,rfl,congrArg (fun n:Int=>some (XV.int .i64 n)) hwi,trivial⟩ ⟨⟨_,rfl,rfl⟩,⟨_,rfl,rfl,rfl⟩,⟨_,rfl,rfl,rfl,Nat.le_refl _,fun _ _=>rfl⟩,⟨_,rfl,rfl,rfl,Nat.le_refl _,fun _ _=>rfl⟩,⟨_,rfl,rfl,rfl,Nat.le_refl _,fun _ _=>rfl⟩,trivial⟩
end Go.Proofs.YtnpkdoggfnlapaaGreatDoor
